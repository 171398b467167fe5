/- The document's inflate: Fixed, Order, heads; walked by hand. -/
import Derived.Test.YtbgdadehjnifeaaGreatRef10
namespace Go.Proofs.YtbgdadehjnifeaaGreat.Hand
open Go.RowKit Go.Proofs.YtbgdadehjnifeaaGreatW.PrintWords Go.Proofs.YtbgdadehjnifeaaGreatW.PrintLast Go.Proofs.YtbgdadehjnifeaaGreatW.PrintMore Go.Proofs.YtbgdadehjnifeaaGreat.Num Go.Proofs.YtbgdadehjnifeaaGreat.Bits Go.Proofs.YtbgdadehjnifeaaGreat.P08 Go.Proofs.YtbgdadehjnifeaaGreat.P09r Go.Proofs.YtbgdadehjnifeaaGreat.P10n
set_option linter.unusedVariables false
set_option linter.unusedSimpArgs false
theorem rfix_all : (List.range 288).all (fun i => decide (fixLit.getD i 0 = if 256 ≤ i ∧ i < 280 then 7 else if 144 ≤ i ∧ i < 256 then 9 else 8)) = true := by kernel_rfl
theorem rfix_at (i : Nat) (h : i < 288) : fixLit.getD i 0 = if 256 ≤ i ∧ i < 280 then 7 else if 144 ≤ i ∧ i < 256 then 9 else 8 := of_decide_eq_true (List.all_eq_true.1 rfix_all i (List.mem_range.2 h))
theorem rfixLit_length : fixLit.length = 288 := by kernel_rfl
theorem rfixDist_length : fixDist.length = 32 := by kernel_rfl
set_option maxRecDepth 100000 in
set_option maxHeartbeats 4000000 in
theorem rfixed_calls (w : World) : Calls Tryz.prog 30 #[] w fun e w' => ∃ (A1 A2 : Option Addr) (c1 c2 : Nat), e = .returned (.tuple #[.slice A1 fixLit.length c1, .slice A2 fixDist.length c2]) ∧ RdI w' A1 c1 fixLit ∧ RdI w' A2 c2 fixDist ∧ Below w.heap.size w w' := by
 obtain ⟨fl, hfl⟩ : ∃ l, l = fixLit := ⟨_, rfl⟩
 obtain ⟨fd, hfd⟩ : ∃ l, l = fixDist := ⟨_, rfl⟩
 have hfll : fl.length = 288 := by rw [hfl]; exact rfixLit_length
 have hfdl : fd.length = 32 := by rw [hfd]; exact rfixDist_length
 have HFA : Aside0 (∀ i, i < 288 → fl.getD i 0 = if 256 ≤ i ∧ i < 280 then 7 else if 144 ≤ i ∧ i < 256 then 9 else 8) := ⟨by rw [hfl]; exact rfix_at⟩
 have HFD : Aside0 (∀ i, i < 32 → fd.getD i 0 = 5) := ⟨fun i hi => by rw [hfd]; unfold fixDist; rw [List.getD_eq_getElem?_getD, List.getElem?_replicate, if_pos hi]; rfl⟩
 have HFL : Aside0 (fl.length = 288 ∧ fd.length = 32) := ⟨hfll, hfdl⟩
 rw [← hfl, ← hfd]
 clear hfl hfd hfll hfdl
 go_enter Tryz.func30, Tryz.ntmps30
 go_wp2_with fail
 have HS0 : Aside0 (Row (w.alloc (.cells #[] 3)) w.heap.size 3 .i64 (.slice (some ⟨w.heap.size, 0, none⟩) 0 0) [] ∧ Below w.heap.size w (w.alloc (.cells #[] 3))) := ⟨Row.empty w w.heap.size 3 .i64 (Nat.le_refl _), below_alloc (Below.refl _ _) _⟩
 generalize w.alloc _ = W0 at HS0 ⊢
 obtain ⟨g0, hg0⟩ : ∃ g, g = w.heap.size := ⟨_, rfl⟩
 have HS : Aside0 (Row W0 w.heap.size 3 .i64 (.slice (some ⟨g0, 0, none⟩) 0 0) [] ∧ Below w.heap.size w W0) := ⟨by rw [hg0]; exact HS0.out.1, HS0.out.2⟩
 rw [← hg0]
 clear HS0 hg0
 go_loopw [2, 3] (fun v2 v3 wr => ∃ (i : Nat) (A : Option Addr) (n k : Nat), v2 = .slice A n k ∧ v3 = .int .i64 (i : Int) ∧ i ≤ 288 ∧ Aside0 (Row wr w.heap.size 3 .i64 (.slice A n k) (fl.take i) ∧ Below w.heap.size w wr)) (fun _ v3 _ => 288 - (intOf v3).toNat)
 case atStart => exact ⟨0, _, 0, 0, rfl, rfl, by omega, ⟨by rw [List.take_zero]; exact HS.out.1, HS.out.2⟩⟩
 case round =>
  clear HS
  obtain ⟨i, A, n, k, rfl, rfl, hi, HW⟩ := hrel
  by_cases hlt : i < 288
  ·obtain ⟨v, hv⟩ : ∃ v, v = fl.getD i 0 := ⟨_, rfl⟩
   have hva := HFA.out i hlt
   rw [← hv] at hva
   have hts : fl.take (i + 1) = fl.take i ++ [v] := by rw [hv]; exact take_succ9 fl i (by rw [HFL.out.1]; exact hlt)
   have hlen : (fl.take i).length = i := by rw [List.length_take, HFL.out.1]; omega
   have HT := Aside0.mk (And.intro hts hlen)
   have hBr := HW.out.2.size
   have hl1 : (fl.take i).length + 1 ≤ maxLen := by unfold maxLen; omega
   have hl2 : ((fl.take i).length + 1) * 8 ≤ 140737488355328 := by omega
   have hBx : w.heap.size ≤ (wr.alloc (.cells #[.int .i64 v] 3)).heap.size := by simp; omega
   have s1 : decide ((i : Int) < 288) = true := decide_eq_true (by omega)
   have s1n : decide (i < 288) = true := decide_eq_true hlt
   clear hv hts hlen
   have fin : ∀ (v8 : Value) (w8 : World), App (wr.alloc (.cells #[.int .i64 v] 3)) w8 w.heap.size 3 .i64 (.slice A n k) v8 (fl.take i ++ [v]) → Aside0 (Row w8 w.heap.size 3 .i64 v8 (fl.take (i + 1)) ∧ Below w.heap.size w w8) := fun v8 w8 hap => ⟨by rw [HT.out.1]; exact hap.row, HW.out.2.trans (hap.below1 HW.out.1 hBr)⟩
   have HFIN := Aside0.mk fin
   clear fin
   rcases (show i < 144 ∨ (144 ≤ i ∧ i < 256) ∨ (256 ≤ i ∧ i < 280) ∨ 280 ≤ i by omega) with h | ⟨h, h'⟩ | ⟨h, h'⟩ | h
   ·rw [if_neg (by omega), if_neg (by omega)] at hva
    subst hva
    have t1 : decide ((144 : Int) ≤ (i : Int)) = false := decide_eq_false (by omega)
    have t1n : decide (144 ≤ i) = false := decide_eq_false (by omega)
    have t2 : decide ((256 : Int) ≤ (i : Int)) = false := decide_eq_false (by omega)
    have t2n : decide (256 ≤ i) = false := decide_eq_false (by omega)
    go_wp2_with (at_builtin; refine app_wp w.heap.size rfl _ _ 50 3 .i64 8 rfl Tryz.underlying50 infoI64 (.slice A n k) (fl.take i) [8] rfl ⟨wr.heap.size, 0, none⟩ 1 1 rfl rfl (news_lit wr .i64 [8] _ _ (by rfl)) (HW.out.1.alloc _) hBx hl1 hl2 ?_; intro v8 w8 hap; obtain ⟨A8, n8, k8, hv8, hn8⟩ := hap.row.shape; subst hv8)
    have HN := HFIN.out _ _ hap
    clear hap
    go_roundw
    case rel => exact ⟨i + 1, A8, n8, k8, rfl, by go_num, by omega, HN⟩
    case measure => simp [intOf]; omega
   ·rw [if_neg (by omega), if_pos ⟨h, h'⟩] at hva
    subst hva
    have t1 : decide ((144 : Int) ≤ (i : Int)) = true := decide_eq_true (by omega)
    have t1n : decide (144 ≤ i) = true := decide_eq_true (by omega)
    have t2 : decide ((256 : Int) ≤ (i : Int)) = false := decide_eq_false (by omega)
    have t2n : decide (256 ≤ i) = false := decide_eq_false (by omega)
    have t3 : decide ((i : Int) < 256) = true := decide_eq_true (by omega)
    have t3n : decide (i < 256) = true := decide_eq_true (by omega)
    go_wp2_with (at_builtin; refine app_wp w.heap.size rfl _ _ 50 3 .i64 8 rfl Tryz.underlying50 infoI64 (.slice A n k) (fl.take i) [9] rfl ⟨wr.heap.size, 0, none⟩ 1 1 rfl rfl (news_lit wr .i64 [9] _ _ (by rfl)) (HW.out.1.alloc _) hBx hl1 hl2 ?_; intro v8 w8 hap; obtain ⟨A8, n8, k8, hv8, hn8⟩ := hap.row.shape; subst hv8)
    have HN := HFIN.out _ _ hap
    clear hap
    go_roundw
    case rel => exact ⟨i + 1, A8, n8, k8, rfl, by go_num, by omega, HN⟩
    case measure => simp [intOf]; omega
   ·rw [if_pos ⟨h, h'⟩] at hva
    subst hva
    have t1 : decide ((144 : Int) ≤ (i : Int)) = true := decide_eq_true (by omega)
    have t1n : decide (144 ≤ i) = true := decide_eq_true (by omega)
    have t2 : decide ((256 : Int) ≤ (i : Int)) = true := decide_eq_true (by omega)
    have t2n : decide (256 ≤ i) = true := decide_eq_true (by omega)
    have t3 : decide ((i : Int) < 256) = false := decide_eq_false (by omega)
    have t3n : decide (i < 256) = false := decide_eq_false (by omega)
    have t4 : decide ((i : Int) < 280) = true := decide_eq_true (by omega)
    have t4n : decide (i < 280) = true := decide_eq_true (by omega)
    go_wp2_with (at_builtin; refine app_wp w.heap.size rfl _ _ 50 3 .i64 8 rfl Tryz.underlying50 infoI64 (.slice A n k) (fl.take i) [7] rfl ⟨wr.heap.size, 0, none⟩ 1 1 rfl rfl (news_lit wr .i64 [7] _ _ (by rfl)) (HW.out.1.alloc _) hBx hl1 hl2 ?_; intro v8 w8 hap; obtain ⟨A8, n8, k8, hv8, hn8⟩ := hap.row.shape; subst hv8)
    have HN := HFIN.out _ _ hap
    clear hap
    go_roundw
    case rel => exact ⟨i + 1, A8, n8, k8, rfl, by go_num, by omega, HN⟩
    case measure => simp [intOf]; omega
   ·rw [if_neg (by omega), if_neg (by omega)] at hva
    subst hva
    have t1 : decide ((144 : Int) ≤ (i : Int)) = true := decide_eq_true (by omega)
    have t1n : decide (144 ≤ i) = true := decide_eq_true (by omega)
    have t2 : decide ((256 : Int) ≤ (i : Int)) = true := decide_eq_true (by omega)
    have t2n : decide (256 ≤ i) = true := decide_eq_true (by omega)
    have t3 : decide ((i : Int) < 256) = false := decide_eq_false (by omega)
    have t3n : decide (i < 256) = false := decide_eq_false (by omega)
    have t4 : decide ((i : Int) < 280) = false := decide_eq_false (by omega)
    have t4n : decide (i < 280) = false := decide_eq_false (by omega)
    go_wp2_with (at_builtin; refine app_wp w.heap.size rfl _ _ 50 3 .i64 8 rfl Tryz.underlying50 infoI64 (.slice A n k) (fl.take i) [8] rfl ⟨wr.heap.size, 0, none⟩ 1 1 rfl rfl (news_lit wr .i64 [8] _ _ (by rfl)) (HW.out.1.alloc _) hBx hl1 hl2 ?_; intro v8 w8 hap; obtain ⟨A8, n8, k8, hv8, hn8⟩ := hap.row.shape; subst hv8)
    have HN := HFIN.out _ _ hap
    clear hap
    go_roundw
    case rel => exact ⟨i + 1, A8, n8, k8, rfl, by go_num, by omega, HN⟩
    case measure => simp [intOf]; omega
  ·obtain rfl : i = 288 := by omega
   have s1 : decide (((288 : Nat) : Int) < 288) = false := by decide
   have hr : Row wr w.heap.size 3 .i64 (.slice A n k) fl := by have := HW.out.1; rwa [List.take_of_length_le (by rw [HFL.out.1]; omega)] at this
   have hB := HW.out.2.size
   have HX : Aside0 (RdI wr A k fl ∧ n = fl.length ∧ Below w.heap.size w wr) := ⟨RdI.row hr, by obtain ⟨A', c', h1, _⟩ := hr.reads; injection h1, HW.out.2⟩
   clear hr HW
   go_wp2_with fail
   have HS0 : Aside0 (Row (wr.alloc (.cells #[] 3)) wr.heap.size 3 .i64 (.slice (some ⟨wr.heap.size, 0, none⟩) 0 0) [] ∧ Below wr.heap.size wr (wr.alloc (.cells #[] 3))) := ⟨Row.empty wr wr.heap.size 3 .i64 (Nat.le_refl _), below_alloc (Below.refl _ _) _⟩
   generalize wr.alloc _ = W1 at HS0 ⊢
   obtain ⟨g1, hg1⟩ : ∃ g, g = wr.heap.size := ⟨_, rfl⟩
   have HS : Aside0 (Row W1 wr.heap.size 3 .i64 (.slice (some ⟨g1, 0, none⟩) 0 0) [] ∧ Below wr.heap.size wr W1) := ⟨by rw [hg1]; exact HS0.out.1, HS0.out.2⟩
   rw [← hg1]
   clear HS0 hg1
   obtain ⟨wo, rfl⟩ : ∃ wo : World, wo = wr := ⟨_, rfl⟩
   go_loopw [5, 6] (fun v5 v6 wq => ∃ (j : Nat) (A5 : Option Addr) (n5 k5 : Nat), v5 = .slice A5 n5 k5 ∧ v6 = .int .i64 (j : Int) ∧ j ≤ 32 ∧ Aside0 (Row wq wo.heap.size 3 .i64 (.slice A5 n5 k5) (fd.take j) ∧ Below wo.heap.size wo wq)) (fun _ v6 _ => 32 - (intOf v6).toNat)
   case atStart => exact ⟨0, _, 0, 0, rfl, rfl, by omega, ⟨by rw [List.take_zero]; exact HS.out.1, HS.out.2⟩⟩
   case round =>
    clear HS
    obtain ⟨j, A5, n5, k5, rfl, rfl, hj, HQ⟩ := hrel
    by_cases hlt : j < 32
    ·have hts : fd.take (j + 1) = fd.take j ++ [5] := by rw [take_succ9 fd j (by rw [HFL.out.2]; exact hlt), HFD.out j hlt]
     have hlen : (fd.take j).length = j := by rw [List.length_take, HFL.out.2]; omega
     have HT := Aside0.mk hts
     have hBr := HQ.out.2.size
     have hl1 : (fd.take j).length + 1 ≤ maxLen := by unfold maxLen; omega
     have hl2 : ((fd.take j).length + 1) * 8 ≤ 140737488355328 := by omega
     have hBx : wo.heap.size ≤ (wr.alloc (.cells #[.int .i64 5] 3)).heap.size := by simp; omega
     have s2 : decide ((j : Int) < 32) = true := decide_eq_true (by omega)
     have s2n : decide (j < 32) = true := decide_eq_true hlt
     clear hts hlen
     go_wp2_with (at_builtin; refine app_wp wo.heap.size rfl _ _ 50 3 .i64 8 rfl Tryz.underlying50 infoI64 (.slice A5 n5 k5) (fd.take j) [5] rfl ⟨wr.heap.size, 0, none⟩ 1 1 rfl rfl (news_lit wr .i64 [5] _ _ (by rfl)) (HQ.out.1.alloc _) hBx hl1 hl2 ?_; intro v8 w8 hap; obtain ⟨A8, n8, k8, hv8, hn8⟩ := hap.row.shape; subst hv8)
     have HN : Aside0 (Row w8 wo.heap.size 3 .i64 (.slice A8 n8 k8) (fd.take (j + 1)) ∧ Below wo.heap.size wo w8) := ⟨by rw [HT.out]; exact hap.row, HQ.out.2.trans (hap.below1 HQ.out.1 hBr)⟩
     clear hap
     go_roundw
     case rel => (repeat apply Exists.intro); exact ⟨⟨j + 1, A8, n8, k8, rfl, by go_num, by omega, HN⟩, rfl⟩
     case measure => simp [intOf]; omega
    ·obtain rfl : j = 32 := by omega
     have s2 : decide (((32 : Nat) : Int) < 32) = false := by decide
     have hr : Row wr wo.heap.size 3 .i64 (.slice A5 n5 k5) fd := by have := HQ.out.1; rwa [List.take_of_length_le (by rw [HFL.out.2]; omega)] at this
     have hn5 : n5 = fd.length := by obtain ⟨A', c', h1, _⟩ := hr.reads; injection h1
     have HY : Aside0 (RdI wr A5 k5 fd ∧ n5 = fd.length) := ⟨RdI.row hr, hn5⟩
     clear hr hn5
     go_wp2_with fail
     go_returns
     exact ⟨A, A5, k, k5, by rw [HX.out.2.1, HY.out.2]; rfl, HX.out.1.below HQ.out.2, HY.out.1, HX.out.2.2.trans (HQ.out.2.mono hB)⟩
end Go.Proofs.YtbgdadehjnifeaaGreat.Hand
