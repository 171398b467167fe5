/- coat: the filters' table, and the one of a name; walked by hand. coat.Check: which filters may be; walked by hand. coat.Encode, over the contracts of what the filters do; walked by hand. coat.Decode, over the contracts of what the filters do; walked by hand. -/
import Derived.Test.YtghoifkaikddlaaGreatBits
import Derived.Great.BuildSlice
import Derived.Handy
import Derived.WalkMore
import Derived.MapKept
namespace Go.Proofs.YtghoifkaikddlaaGreat.Hand
open Go.RowKit Go.Proofs.YtghoifkaikddlaaGreatW.PrintWords Go.Proofs.YtghoifkaikddlaaGreatW.PrintLast Go.Proofs.YtghoifkaikddlaaGreat.Num
set_option linter.unusedVariables false
set_option linter.unusedSimpArgs false
abbrev hexN : ByteArray := ⟨#[65, 83, 67, 73, 73, 72, 101, 120, 68, 101, 99, 111, 100, 101]⟩
abbrev runsN : ByteArray := ⟨#[82, 117, 110, 76, 101, 110, 103, 116, 104, 68, 101, 99, 111, 100, 101]⟩
abbrev deflN : ByteArray := ⟨#[70, 108, 97, 116, 101, 68, 101, 99, 111, 100, 101]⟩
def kn (s : ByteArray) : Nat := if s = hexN then 1 else if s = runsN then 2 else if s = deflN then 3 else 0
def fcells : Nat → Int → Array Value
 | 1, _ => #[.string hexN, .func (.func 49) #[] #[], .func (.func 50) #[] #[]]
 | 2, n => #[.string runsN, .func (.func 51) #[] #[], .func (.func 52) #[.int .i64 n] #[]]
 | 3, n => #[.string deflN, .func (.func 53) #[] #[], .func (.func 54) #[.int .i64 n] #[]]
 | _, _ => #[.string ⟨#[]⟩, .nilFunc, .nilFunc]
abbrev ftab (n : Int) : Array Value := #[.string hexN, .func (.func 49) #[] #[], .func (.func 50) #[] #[], .string runsN, .func (.func 51) #[] #[], .func (.func 52) #[.int .i64 n] #[], .string deflN, .func (.func 53) #[] #[], .func (.func 54) #[.int .i64 n] #[]]
theorem fr_row14 (w : World) (g : Nat) (cs : Array Value) : Fr w (w.setRow g cs) (· = g) := ⟨rfl, rfl, rfl, by simp, fun k _ hn => setRow_other w g k cs hn⟩
theorem kn_le (s : ByteArray) : kn s ≤ 3 := by
 unfold kn
 split
 ·omega
 ·split
  ·omega
  ·split <;> omega
theorem kn_1 {s : ByteArray} (h : kn s = 1) : s = hexN := by
 unfold kn at h
 split at h
 ·assumption
 ·split at h
  ·omega
  ·split at h <;> omega
theorem kn_2 {s : ByteArray} (h : kn s = 2) : s = runsN := by
 unfold kn at h
 split at h
 ·omega
 ·split at h
  ·assumption
  ·split at h <;> omega
theorem kn_3 {s : ByteArray} (h : kn s = 3) : s = deflN := by
 unfold kn at h
 split at h
 ·omega
 ·split at h
  ·omega
  ·split at h
   ·assumption
   ·omega
theorem filters_calls (n : Int) (w : World) :
  Calls Tryz.prog 37 #[.int .i64 n] w fun e w' => e = .returned (.slice (some ⟨w.heap.size, 0, none⟩) 3 3) ∧ w' = w.alloc (.cells (ftab n) 51) := by
 go_enter Tryz.func37, Tryz.ntmps37
 go_wp2
 go_ret
 exact ⟨rfl, rfl⟩
theorem filtInfo : (Tryz.prog.info? 51).map (·.size) = some 3 := by kernel_rfl
theorem filt_one (s : ByteArray) (a b : Nat) (p : Array Value) : (#[.string s, .func (.func a) #[] #[], .func (.func b) p #[]] : Array Value).all (·.oneCell') = true := by simp [Value.oneCell']
theorem beq_t {a b : ByteArray} (l : List UInt8) (hl : a.data.toList = l) (h : a = b) : (l == b.toList) = true := by
 subst h
 rw [ByteArray.toList_eq, hl, beq_self_eq_true]
theorem beq_f {a b : ByteArray} (l : List UInt8) (hl : a.data.toList = l) (h : a ≠ b) : (l == b.toList) = false := by
 rw [Bool.eq_false_iff]
 intro e
 have e2 := beq_iff_eq.1 e
 rw [ByteArray.toList_eq, ← hl] at e2
 exact h (ByteArray.ext (Array.toList_inj.1 e2))
set_option maxRecDepth 100000 in
set_option maxHeartbeats 8000000 in
theorem find_calls (name : ByteArray) (n : Int) (w : World) :
  Calls Tryz.prog 26 #[.string name, .int .i64 n] w fun e w' => e = .returned (.tuple #[.agg (fcells (kn name) n), .bool (decide (kn name ≠ 0))]) ∧ Below w.heap.size w w' := by
 go_enter Tryz.func26, Tryz.ntmps26
 go_wp2_with (first | (go_at_call 37; (with_reducible refine (filters_calls _ _).mono ?_); rintro e w1 ⟨rfl, rfl⟩))
 have hz := blk_alloc (heap_alloc_new w (.cells #[.string ⟨#[]⟩, .nilFunc, .nilFunc] 51)) (.cells (ftab n) 51)
 have hg := heap_alloc_new (w.alloc (.cells #[.string ⟨#[]⟩, .nilFunc, .nilFunc] 51)) (.cells (ftab n) 51)
 have hB := below_alloc (below_alloc (Below.refl w.heap.size w) (.cells #[.string ⟨#[]⟩, .nilFunc, .nilFunc] 51)) (.cells (ftab n) 51)
 simp only [World.size_alloc] at hg ⊢
 obtain ⟨z, hz'⟩ : ∃ z, z = w.heap.size := ⟨_, rfl⟩
 obtain ⟨g, hg'⟩ : ∃ g, g = w.heap.size + 1 := ⟨_, rfl⟩
 have hzw : w.heap.size ≤ z := Nat.le_of_eq hz'.symm
 rw [← hg'] at hg ⊢
 rw [← hz'] at hz ⊢
 have HW := Aside0.mk hz'
 clear hz' hg'
 generalize (w.alloc _).alloc _ = w1 at hz hg hB ⊢
 go_loopw [11] (fun v11 wr => ∃ i : Nat, i ≤ 3 ∧ v11 = .int .i64 (i : Int) ∧ (∀ j, j < i → kn name ≠ j + 1) ∧ Aside0 (wr.heap[z]? = some (.cells #[.string ⟨#[]⟩, .nilFunc, .nilFunc] 51 (0, 0))) ∧ Aside0 (wr.heap[g]? = some (.cells (ftab n) 51 (0, 0))) ∧ Aside0 (Below w.heap.size w wr)) (fun v11 _ => 3 - (intOf v11).toNat)
 case atStart => exact ⟨0, by omega, rfl, fun j hj => absurd hj (Nat.not_lt_zero j), ⟨hz⟩, ⟨hg⟩, ⟨hB⟩⟩
 case round =>
  obtain ⟨i, hi, rfl, hno, HZ, HG, HB⟩ := hrel
  clear hz hg hB
  rcases (by omega : i = 0 ∨ i = 1 ∨ i = 2 ∨ i = 3) with rfl | rfl | rfl | rfl
  
  ·have d0 : wr.cell? ⟨g, 0, none⟩ = some (.string hexN) := blk_cell HG.out 0
   have d1 : wr.cell? ⟨g, 1, none⟩ = some (.func (.func 49) #[] #[]) := blk_cell HG.out 1
   have d2 : wr.cell? ⟨g, 2, none⟩ = some (.func (.func 50) #[] #[]) := blk_cell HG.out 2
   have tb0 := heap_alloc_new wr (.cells #[.string ⟨#[]⟩, .nilFunc, .nilFunc] 51)
   have zb0 := blk_alloc HZ.out (.cells #[.string ⟨#[]⟩, .nilFunc, .nilFunc] 51)
   have gb0 := blk_alloc HG.out (.cells #[.string ⟨#[]⟩, .nilFunc, .nilFunc] 51)
   have hzT : z ≠ wr.heap.size := Nat.ne_of_lt (blk_lt HZ.out)
   have hgT : g ≠ wr.heap.size := Nat.ne_of_lt (blk_lt HG.out)
   have hB4 := below_alloc HB.out (.cells #[.string ⟨#[]⟩, .nilFunc, .nilFunc] 51)
   by_cases hn : hexN = name
   ·have tq : (([65, 83, 67, 73, 73, 72, 101, 120, 68, 101, 99, 111, 100, 101] : List UInt8) == name.toList) = true := beq_t _ rfl hn
    have hk : kn name = 1 := by rw [← hn]; decide
    clear hn
    go_wp2_with (first | (refine wpList_store_rowTo rfl 51 _ _ rfl rfl wr.heap.size #[.string hexN, .func (.func 49) #[] #[], .func (.func 50) #[] #[]] rfl rfl 51 _ tb0 filtInfo rfl (filt_one _ _ _ _) ?_; have tb := setRow_heap _ _ _ #[.string hexN, .func (.func 49) #[] #[], .func (.func 50) #[] #[]] _ _ tb0; have zb := (setRow_other _ _ z #[.string hexN, .func (.func 49) #[] #[], .func (.func 50) #[] #[]] hzT).trans zb0; have gb := (setRow_other _ _ g #[.string hexN, .func (.func 49) #[] #[], .func (.func 50) #[] #[]] hgT).trans gb0; have hB5 := hB4.trans ((fr_row14 _ wr.heap.size #[.string hexN, .func (.func 49) #[] #[], .func (.func 50) #[] #[]]).below (by rintro k rfl; exact HB.out.size) hB4.size); clear tb0 zb0 gb0 hB4; generalize World.setRow _ _ #[.string hexN, .func (.func 49) #[] #[], .func (.func 50) #[] #[]] = W5 at tb zb gb hB5 ⊢; have e0 := blk_cell tb 0; have e1 := blk_cell tb 1; have e2 := blk_cell tb 2) | (refine wpList_load_row rfl 51 _ rfl wr.heap.size rfl 51 _ (0, 0) _ tb Tryz.underlying51 rfl filtInfo ?_) | (refine wpList_store_rowTo rfl 51 _ _ rfl rfl z #[.string hexN, .func (.func 49) #[] #[], .func (.func 50) #[] #[]] rfl rfl 51 _ zb filtInfo rfl (filt_one _ _ _ _) ?_))
    repeat (rw [Exit.noGoto_ret])
    show bodyPost _ _ _ _ _ _
    have hq := setRow_heap _ _ _ #[.string hexN, .func (.func 49) #[] #[], .func (.func 50) #[] #[]] _ _ zb
    exact bodyPost_ret (results_ct rfl _ _ z 51 #[.string hexN, .func (.func 49) #[] #[], .func (.func 50) #[] #[]] (0, 0) _ rfl hq Tryz.underlying51 rfl filtInfo) rfl ⟨by rw [hk]; rfl, hB5.trans ((fr_row14 _ z _).below (by rintro k rfl; exact hzw) hB5.size)⟩
   ·have tq : (([65, 83, 67, 73, 73, 72, 101, 120, 68, 101, 99, 111, 100, 101] : List UInt8) == name.toList) = false := beq_f _ rfl hn
    have hk : ¬ kn name = 1 := fun e => hn (kn_1 e).symm
    go_wp2_with (first | (refine wpList_store_rowTo rfl 51 _ _ rfl rfl wr.heap.size #[.string hexN, .func (.func 49) #[] #[], .func (.func 50) #[] #[]] rfl rfl 51 _ tb0 filtInfo rfl (filt_one _ _ _ _) ?_; have tb := setRow_heap _ _ _ #[.string hexN, .func (.func 49) #[] #[], .func (.func 50) #[] #[]] _ _ tb0; have zb := (setRow_other _ _ z #[.string hexN, .func (.func 49) #[] #[], .func (.func 50) #[] #[]] hzT).trans zb0; have gb := (setRow_other _ _ g #[.string hexN, .func (.func 49) #[] #[], .func (.func 50) #[] #[]] hgT).trans gb0; have hB5 := hB4.trans ((fr_row14 _ wr.heap.size #[.string hexN, .func (.func 49) #[] #[], .func (.func 50) #[] #[]]).below (by rintro k rfl; exact HB.out.size) hB4.size); clear tb0 zb0 gb0 hB4; generalize World.setRow _ _ #[.string hexN, .func (.func 49) #[] #[], .func (.func 50) #[] #[]] = W5 at tb zb gb hB5 ⊢; have e0 := blk_cell tb 0; have e1 := blk_cell tb 1; have e2 := blk_cell tb 2))
    go_roundw
    case rel => exact ⟨1, by omega, rfl, fun j hj => (by rcases (by omega : j < 0 ∨ j = 0 ∨ j = 1 ∨ j = 2) with h | rfl | rfl | rfl <;> first | omega | exact hk | exact hno _ (by omega)), ⟨zb⟩, ⟨gb⟩, ⟨hB5⟩⟩
    case measure => simp [intOf]
  ·have d0 : wr.cell? ⟨g, 3, none⟩ = some (.string runsN) := blk_cell HG.out 3
   have d1 : wr.cell? ⟨g, 4, none⟩ = some (.func (.func 51) #[] #[]) := blk_cell HG.out 4
   have d2 : wr.cell? ⟨g, 5, none⟩ = some (.func (.func 52) #[.int .i64 n] #[]) := blk_cell HG.out 5
   have tb0 := heap_alloc_new wr (.cells #[.string ⟨#[]⟩, .nilFunc, .nilFunc] 51)
   have zb0 := blk_alloc HZ.out (.cells #[.string ⟨#[]⟩, .nilFunc, .nilFunc] 51)
   have gb0 := blk_alloc HG.out (.cells #[.string ⟨#[]⟩, .nilFunc, .nilFunc] 51)
   have hzT : z ≠ wr.heap.size := Nat.ne_of_lt (blk_lt HZ.out)
   have hgT : g ≠ wr.heap.size := Nat.ne_of_lt (blk_lt HG.out)
   have hB4 := below_alloc HB.out (.cells #[.string ⟨#[]⟩, .nilFunc, .nilFunc] 51)
   by_cases hn : runsN = name
   ·have tq : (([82, 117, 110, 76, 101, 110, 103, 116, 104, 68, 101, 99, 111, 100, 101] : List UInt8) == name.toList) = true := beq_t _ rfl hn
    have hk : kn name = 2 := by rw [← hn]; decide
    clear hn
    go_wp2_with (first | (refine wpList_store_rowTo rfl 51 _ _ rfl rfl wr.heap.size #[.string runsN, .func (.func 51) #[] #[], .func (.func 52) #[.int .i64 n] #[]] rfl rfl 51 _ tb0 filtInfo rfl (filt_one _ _ _ _) ?_; have tb := setRow_heap _ _ _ #[.string runsN, .func (.func 51) #[] #[], .func (.func 52) #[.int .i64 n] #[]] _ _ tb0; have zb := (setRow_other _ _ z #[.string runsN, .func (.func 51) #[] #[], .func (.func 52) #[.int .i64 n] #[]] hzT).trans zb0; have gb := (setRow_other _ _ g #[.string runsN, .func (.func 51) #[] #[], .func (.func 52) #[.int .i64 n] #[]] hgT).trans gb0; have hB5 := hB4.trans ((fr_row14 _ wr.heap.size #[.string runsN, .func (.func 51) #[] #[], .func (.func 52) #[.int .i64 n] #[]]).below (by rintro k rfl; exact HB.out.size) hB4.size); clear tb0 zb0 gb0 hB4; generalize World.setRow _ _ #[.string runsN, .func (.func 51) #[] #[], .func (.func 52) #[.int .i64 n] #[]] = W5 at tb zb gb hB5 ⊢; have e0 := blk_cell tb 0; have e1 := blk_cell tb 1; have e2 := blk_cell tb 2) | (refine wpList_load_row rfl 51 _ rfl wr.heap.size rfl 51 _ (0, 0) _ tb Tryz.underlying51 rfl filtInfo ?_) | (refine wpList_store_rowTo rfl 51 _ _ rfl rfl z #[.string runsN, .func (.func 51) #[] #[], .func (.func 52) #[.int .i64 n] #[]] rfl rfl 51 _ zb filtInfo rfl (filt_one _ _ _ _) ?_))
    repeat (rw [Exit.noGoto_ret])
    show bodyPost _ _ _ _ _ _
    have hq := setRow_heap _ _ _ #[.string runsN, .func (.func 51) #[] #[], .func (.func 52) #[.int .i64 n] #[]] _ _ zb
    exact bodyPost_ret (results_ct rfl _ _ z 51 #[.string runsN, .func (.func 51) #[] #[], .func (.func 52) #[.int .i64 n] #[]] (0, 0) _ rfl hq Tryz.underlying51 rfl filtInfo) rfl ⟨by rw [hk]; rfl, hB5.trans ((fr_row14 _ z _).below (by rintro k rfl; exact hzw) hB5.size)⟩
   ·have tq : (([82, 117, 110, 76, 101, 110, 103, 116, 104, 68, 101, 99, 111, 100, 101] : List UInt8) == name.toList) = false := beq_f _ rfl hn
    have hk : ¬ kn name = 2 := fun e => hn (kn_2 e).symm
    go_wp2_with (first | (refine wpList_store_rowTo rfl 51 _ _ rfl rfl wr.heap.size #[.string runsN, .func (.func 51) #[] #[], .func (.func 52) #[.int .i64 n] #[]] rfl rfl 51 _ tb0 filtInfo rfl (filt_one _ _ _ _) ?_; have tb := setRow_heap _ _ _ #[.string runsN, .func (.func 51) #[] #[], .func (.func 52) #[.int .i64 n] #[]] _ _ tb0; have zb := (setRow_other _ _ z #[.string runsN, .func (.func 51) #[] #[], .func (.func 52) #[.int .i64 n] #[]] hzT).trans zb0; have gb := (setRow_other _ _ g #[.string runsN, .func (.func 51) #[] #[], .func (.func 52) #[.int .i64 n] #[]] hgT).trans gb0; have hB5 := hB4.trans ((fr_row14 _ wr.heap.size #[.string runsN, .func (.func 51) #[] #[], .func (.func 52) #[.int .i64 n] #[]]).below (by rintro k rfl; exact HB.out.size) hB4.size); clear tb0 zb0 gb0 hB4; generalize World.setRow _ _ #[.string runsN, .func (.func 51) #[] #[], .func (.func 52) #[.int .i64 n] #[]] = W5 at tb zb gb hB5 ⊢; have e0 := blk_cell tb 0; have e1 := blk_cell tb 1; have e2 := blk_cell tb 2))
    go_roundw
    case rel => exact ⟨2, by omega, rfl, fun j hj => (by rcases (by omega : j < 0 ∨ j = 0 ∨ j = 1 ∨ j = 2) with h | rfl | rfl | rfl <;> first | omega | exact hk | exact hno _ (by omega)), ⟨zb⟩, ⟨gb⟩, ⟨hB5⟩⟩
    case measure => simp [intOf]
  ·have d0 : wr.cell? ⟨g, 6, none⟩ = some (.string deflN) := blk_cell HG.out 6
   have d1 : wr.cell? ⟨g, 7, none⟩ = some (.func (.func 53) #[] #[]) := blk_cell HG.out 7
   have d2 : wr.cell? ⟨g, 8, none⟩ = some (.func (.func 54) #[.int .i64 n] #[]) := blk_cell HG.out 8
   have tb0 := heap_alloc_new wr (.cells #[.string ⟨#[]⟩, .nilFunc, .nilFunc] 51)
   have zb0 := blk_alloc HZ.out (.cells #[.string ⟨#[]⟩, .nilFunc, .nilFunc] 51)
   have gb0 := blk_alloc HG.out (.cells #[.string ⟨#[]⟩, .nilFunc, .nilFunc] 51)
   have hzT : z ≠ wr.heap.size := Nat.ne_of_lt (blk_lt HZ.out)
   have hgT : g ≠ wr.heap.size := Nat.ne_of_lt (blk_lt HG.out)
   have hB4 := below_alloc HB.out (.cells #[.string ⟨#[]⟩, .nilFunc, .nilFunc] 51)
   by_cases hn : deflN = name
   ·have tq : (([70, 108, 97, 116, 101, 68, 101, 99, 111, 100, 101] : List UInt8) == name.toList) = true := beq_t _ rfl hn
    have hk : kn name = 3 := by rw [← hn]; decide
    clear hn
    go_wp2_with (first | (refine wpList_store_rowTo rfl 51 _ _ rfl rfl wr.heap.size #[.string deflN, .func (.func 53) #[] #[], .func (.func 54) #[.int .i64 n] #[]] rfl rfl 51 _ tb0 filtInfo rfl (filt_one _ _ _ _) ?_; have tb := setRow_heap _ _ _ #[.string deflN, .func (.func 53) #[] #[], .func (.func 54) #[.int .i64 n] #[]] _ _ tb0; have zb := (setRow_other _ _ z #[.string deflN, .func (.func 53) #[] #[], .func (.func 54) #[.int .i64 n] #[]] hzT).trans zb0; have gb := (setRow_other _ _ g #[.string deflN, .func (.func 53) #[] #[], .func (.func 54) #[.int .i64 n] #[]] hgT).trans gb0; have hB5 := hB4.trans ((fr_row14 _ wr.heap.size #[.string deflN, .func (.func 53) #[] #[], .func (.func 54) #[.int .i64 n] #[]]).below (by rintro k rfl; exact HB.out.size) hB4.size); clear tb0 zb0 gb0 hB4; generalize World.setRow _ _ #[.string deflN, .func (.func 53) #[] #[], .func (.func 54) #[.int .i64 n] #[]] = W5 at tb zb gb hB5 ⊢; have e0 := blk_cell tb 0; have e1 := blk_cell tb 1; have e2 := blk_cell tb 2) | (refine wpList_load_row rfl 51 _ rfl wr.heap.size rfl 51 _ (0, 0) _ tb Tryz.underlying51 rfl filtInfo ?_) | (refine wpList_store_rowTo rfl 51 _ _ rfl rfl z #[.string deflN, .func (.func 53) #[] #[], .func (.func 54) #[.int .i64 n] #[]] rfl rfl 51 _ zb filtInfo rfl (filt_one _ _ _ _) ?_))
    repeat (rw [Exit.noGoto_ret])
    show bodyPost _ _ _ _ _ _
    have hq := setRow_heap _ _ _ #[.string deflN, .func (.func 53) #[] #[], .func (.func 54) #[.int .i64 n] #[]] _ _ zb
    exact bodyPost_ret (results_ct rfl _ _ z 51 #[.string deflN, .func (.func 53) #[] #[], .func (.func 54) #[.int .i64 n] #[]] (0, 0) _ rfl hq Tryz.underlying51 rfl filtInfo) rfl ⟨by rw [hk]; rfl, hB5.trans ((fr_row14 _ z _).below (by rintro k rfl; exact hzw) hB5.size)⟩
   ·have tq : (([70, 108, 97, 116, 101, 68, 101, 99, 111, 100, 101] : List UInt8) == name.toList) = false := beq_f _ rfl hn
    have hk : ¬ kn name = 3 := fun e => hn (kn_3 e).symm
    go_wp2_with (first | (refine wpList_store_rowTo rfl 51 _ _ rfl rfl wr.heap.size #[.string deflN, .func (.func 53) #[] #[], .func (.func 54) #[.int .i64 n] #[]] rfl rfl 51 _ tb0 filtInfo rfl (filt_one _ _ _ _) ?_; have tb := setRow_heap _ _ _ #[.string deflN, .func (.func 53) #[] #[], .func (.func 54) #[.int .i64 n] #[]] _ _ tb0; have zb := (setRow_other _ _ z #[.string deflN, .func (.func 53) #[] #[], .func (.func 54) #[.int .i64 n] #[]] hzT).trans zb0; have gb := (setRow_other _ _ g #[.string deflN, .func (.func 53) #[] #[], .func (.func 54) #[.int .i64 n] #[]] hgT).trans gb0; have hB5 := hB4.trans ((fr_row14 _ wr.heap.size #[.string deflN, .func (.func 53) #[] #[], .func (.func 54) #[.int .i64 n] #[]]).below (by rintro k rfl; exact HB.out.size) hB4.size); clear tb0 zb0 gb0 hB4; generalize World.setRow _ _ #[.string deflN, .func (.func 53) #[] #[], .func (.func 54) #[.int .i64 n] #[]] = W5 at tb zb gb hB5 ⊢; have e0 := blk_cell tb 0; have e1 := blk_cell tb 1; have e2 := blk_cell tb 2))
    go_roundw
    case rel => exact ⟨3, by omega, rfl, fun j hj => (by rcases (by omega : j < 0 ∨ j = 0 ∨ j = 1 ∨ j = 2) with h | rfl | rfl | rfl <;> first | omega | exact hk | exact hno _ (by omega)), ⟨zb⟩, ⟨gb⟩, ⟨hB5⟩⟩
    case measure => simp [intOf]
  ·have zb := HZ.out
   have hk : kn name = 0 := by
    have a := hno 0 (by omega); have b := hno 1 (by omega); have c := hno 2 (by omega); have d := kn_le name
    omega
   go_wp2_with (first | (refine wpList_store_rowTo rfl 51 _ _ rfl rfl z #[.string ⟨#[]⟩, .nilFunc, .nilFunc] rfl rfl 51 _ zb filtInfo rfl (by simp [Value.oneCell']) ?_))
   repeat (rw [Exit.noGoto_ret])
   show bodyPost _ _ _ _ _ _
   have hq := setRow_heap _ _ _ #[.string ⟨#[]⟩, .nilFunc, .nilFunc] _ _ zb
   exact bodyPost_ret (results_ct rfl _ _ z 51 #[.string ⟨#[]⟩, .nilFunc, .nilFunc] (0, 0) _ rfl hq Tryz.underlying51 rfl filtInfo) rfl ⟨by rw [hk]; rfl, HB.out.trans ((fr_row14 _ z _).below (by rintro k rfl; exact hzw) HB.out.size)⟩
end Go.Proofs.YtghoifkaikddlaaGreat.Hand
namespace Go.Proofs.YtghoifkaikddlaaGreat.Hand
open Go.RowKit Go.Proofs.YtghoifkaikddlaaGreatW.PrintWords Go.Proofs.YtghoifkaikddlaaGreatW.PrintLast Go.Proofs.YtghoifkaikddlaaGreat.Num
set_option linter.unusedVariables false
set_option linter.unusedSimpArgs false
def Strs (w : World) (A : Option Addr) (l : List ByteArray) : Prop := ∀ i, i < l.length → ∃ ad, A = some ad ∧ w.cell? (ad.add i) = some (.string (l.getD i ⟨#[]⟩))
theorem Strs.below {w w1 : World} {A : Option Addr} {l : List ByteArray} (h : Strs w A l) (hb : Below w.heap.size w w1) : Strs w1 A l := fun i hi => by
 obtain ⟨ad, h1, h2⟩ := h i hi
 exact ⟨ad, h1, (hb.cell (World.block_lt_of_cell? w _ h2)).trans h2⟩
def cchkF (l : List ByteArray) (c : Int) : Int :=
 if c < 0 ∨ 256 < c then 2 else if 4 < l.length then 16 else if ∃ i, i < l.length ∧ kn (l.getD i ⟨#[]⟩) = 0 then 16 else if 0 < c ∧ kn (l.getD (l.length - 1) ⟨#[]⟩) ≠ 3 then 16 else 0
theorem fcells_size (k : Nat) (n : Int) : (fcells k n).size = 3 := by
 unfold fcells
 split <;> rfl
theorem fcells_one (k : Nat) (n : Int) : (fcells k n).all (·.oneCell') = true := by
 unfold fcells
 split <;> simp [Value.oneCell']
theorem filtInfo' (k : Nat) (n : Int) : (Tryz.prog.info? 51).map (·.size) = some (fcells k n).size := by rw [fcells_size]; exact filtInfo
theorem below_box {w W : World} (h : Below w.heap.size w W) (o : Obj) (cs : Array Value) : Below w.heap.size w ((W.alloc o).setRow W.heap.size cs) :=
 (below_alloc h o).trans ((fr_row14 _ W.heap.size cs).below (by rintro k rfl; exact h.size) (below_alloc h o).size)
theorem kn_defl : kn deflN = 3 := by decide
theorem ne_defl {nm : ByteArray} (h3 : ¬ kn nm = 3) : deflN ≠ nm := fun h => h3 (by rw [← h]; exact kn_defl)
theorem neq_t {a b : ByteArray} (l : List UInt8) (hl : a.data.toList = l) (h : a = b) : (b.toList == l) = true := by
 subst h
 rw [ByteArray.toList_eq, hl, beq_self_eq_true]
theorem neq_f {a b : ByteArray} (l : List UInt8) (hl : a.data.toList = l) (h : a ≠ b) : (b.toList == l) = false := by
 rw [Bool.eq_false_iff]
 intro e
 have e2 := beq_iff_eq.1 e
 rw [ByteArray.toList_eq, ← hl] at e2
 exact h (ByteArray.ext (Array.toList_inj.1 e2.symm))
set_option maxRecDepth 100000 in
set_option maxHeartbeats 8000000 in
theorem ccheck_calls (A : Option Addr) (n cap : Nat) (l : List ByteArray) (c : Int) (w : World) (hn : n = l.length) (hl : Strs w A l) :
  Calls Tryz.prog 19 #[.slice A n cap, .int .i64 c] w fun e w' => e = .returned (.int .i64 (cchkF l c)) ∧ Below w.heap.size w w' := by
 have HN := Aside0.mk hn
 by_cases hc0 : c < 0
 ·have q0 : decide (c < (0 : Int)) = true := decide_eq_true hc0
  have hr : cchkF l c = 2 := by unfold cchkF; rw [if_pos (.inl hc0)]
  rw [hr]
  clear hn
  go_enter Tryz.func19, Tryz.ntmps19
  go_wp2
  go_ret
  exact ⟨rfl, Below.refl _ _⟩
 have q0 : decide (c < (0 : Int)) = false := decide_eq_false hc0
 by_cases hc1 : 256 < c
 ·have q1 : decide ((256 : Int) < c) = true := decide_eq_true hc1
  have hr : cchkF l c = 2 := by unfold cchkF; rw [if_pos (.inr hc1)]
  rw [hr]
  clear hn
  go_enter Tryz.func19, Tryz.ntmps19
  go_wp2
  go_ret
  exact ⟨rfl, Below.refl _ _⟩
 have q1 : decide ((256 : Int) < c) = false := decide_eq_false hc1
 by_cases h4 : 4 < n
 ·have q2 : decide ((4 : Int) < (n : Int)) = true := decide_eq_true (by omega)
  have hr : cchkF l c = 16 := by unfold cchkF; rw [if_neg (by omega), if_pos (by omega)]
  rw [hr]
  clear hn
  go_enter Tryz.func19, Tryz.ntmps19
  go_wp2
  go_ret
  exact ⟨rfl, Below.refl _ _⟩
 have q2 : decide ((4 : Int) < (n : Int)) = false := decide_eq_false (by omega)
 have hr0 : cchkF l c = if ∃ i, i < l.length ∧ kn (l.getD i ⟨#[]⟩) = 0 then 16 else if 0 < c ∧ kn (l.getD (l.length - 1) ⟨#[]⟩) ≠ 3 then 16 else 0 := by unfold cchkF; rw [if_neg (by omega), if_neg (by omega)]
 obtain ⟨r, hr⟩ : ∃ r, r = cchkF l c := ⟨_, rfl⟩
 rw [← hr] at hr0 ⊢
 have HR := Aside0.mk hr0
 clear hr hr0 hn
 go_enter Tryz.func19, Tryz.ntmps19
 go_wp2_with fail
 go_loopw [22] (fun v22 wr => ∃ i : Nat, i ≤ n ∧ v22 = .int .i64 (i : Int) ∧ Aside0 (∀ j, j < i → kn (l.getD j ⟨#[]⟩) ≠ 0) ∧ Aside0 (Below w.heap.size w wr)) (fun v22 _ => n - (intOf v22).toNat)
 case atStart => exact ⟨0, Nat.zero_le _, rfl, ⟨fun j hj => absurd hj (Nat.not_lt_zero j)⟩, ⟨Below.refl _ _⟩⟩
 case round =>
  obtain ⟨i, hi, rfl, HK, HB⟩ := hrel
  by_cases hlt : i < n
  ·have r1 : decide ((i : Int) < (n : Int)) = true := decide_eq_true (by omega)
   obtain ⟨ad, rfl, hc⟩ := (hl.below HB.out) i (by have := HN.out; omega)
   obtain ⟨nm, hnm⟩ : ∃ nm, nm = l.getD i ⟨#[]⟩ := ⟨_, rfl⟩
   rw [← hnm] at hc
   have HNM := Aside0.mk hnm
   have KF := Aside0.mk (fun W => find_calls nm 0 W)
   clear hnm
   obtain ⟨k, hk⟩ : ∃ k, k = kn nm := ⟨_, rfl⟩
   rw [← hk] at KF
   have HKK := Aside0.mk hk
   clear hk
   by_cases h0 : k = 0
   ·have t0 : decide (k ≠ 0) = false := decide_eq_false (by omega)
    rw [t0] at KF
    have hr := HR.out
    rw [if_pos ⟨i, by have := HN.out; omega, by rw [← HNM.out, ← HKK.out]; exact h0⟩] at hr
    subst hr
    clear HR h0 t0
    go_wp2_with (first | (go_at_call 26; (with_reducible refine (KF.out _).mono ?_); rintro e w1 ⟨rfl, hb1⟩; have tb0 := heap_alloc_new w1 (.cells #[.string ⟨#[]⟩, .nilFunc, .nilFunc] 51)) | (refine wpList_store_rowTo rfl 51 _ _ rfl rfl w1.heap.size (fcells k 0) rfl rfl 51 _ tb0 (filtInfo' _ _) (by rw [fcells_size]; rfl) (fcells_one _ _) ?_))
    repeat (rw [Exit.noGoto_ret])
    show bodyPost _ _ _ _ _ _
    go_ret
    exact ⟨rfl, below_box (HB.out.trans (hb1.mono HB.out.size)) _ _⟩
   ·have t0 : decide (k ≠ 0) = true := decide_eq_true (by omega)
    rw [t0] at KF
    have HK0 := Aside0.mk h0
    clear h0 t0
    go_wp2_with (first | (go_at_call 26; (with_reducible refine (KF.out _).mono ?_); rintro e w1 ⟨rfl, hb1⟩; have tb0 := heap_alloc_new w1 (.cells #[.string ⟨#[]⟩, .nilFunc, .nilFunc] 51)) | (refine wpList_store_rowTo rfl 51 _ _ rfl rfl w1.heap.size (fcells k 0) rfl rfl 51 _ tb0 (filtInfo' _ _) (by rw [fcells_size]; rfl) (fcells_one _ _) ?_))
    go_roundw
    case rel => exact ⟨i + 1, by omega, by go_num, ⟨fun j hj => by
     rcases Nat.lt_or_ge j i with h | h
     ·exact HK.out j h
     ·obtain rfl : j = i := by omega
      rw [← HNM.out, ← HKK.out]; exact HK0.out⟩, ⟨below_box (HB.out.trans (hb1.mono HB.out.size)) _ _⟩⟩
    case measure => simp [intOf]; omega
  ·have r1 : decide ((i : Int) < (n : Int)) = false := decide_eq_false (by omega)
   obtain rfl : i = n := by omega
   have hr := HR.out
   rw [if_neg (by rintro ⟨j, h1, h2⟩; exact HK.out j (by have := HN.out; omega) h2)] at hr
   clear HR HK hlt hi
   by_cases hc2 : 0 < c
   ·have q3 : decide ((0 : Int) < c) = true := decide_eq_true hc2
    by_cases hi0 : i = 0
    ·subst hi0
     rw [if_pos ⟨hc2, by rw [List.length_eq_zero_iff.1 HN.out.symm]; decide⟩] at hr
     subst hr
     go_wp2_with fail
     go_ret
     exact ⟨rfl, HB.out⟩
    ·obtain ⟨m, hm⟩ : ∃ m, i = m + 1 := ⟨i - 1, by omega⟩
     have e1 : (i : Int) - 1 = (m : Int) := by omega
     have e2 : ((i : Int) == 0) = false := beq_false_of_ne (by omega)
     have e3 : (i == 0) = false := beq_false_of_ne hi0
     have hlm : m < i := by omega
     have hlm1 : m < l.length := by have := HN.out; omega
     rw [show l.length - 1 = m by have := HN.out; omega] at hr
     obtain ⟨ad, rfl, hcl⟩ := (hl.below HB.out) m hlm1
     have hcl' := (hl.below HB.out) m hlm1
     obtain ⟨nm, hnm⟩ : ∃ nm, nm = l.getD m ⟨#[]⟩ := ⟨_, rfl⟩
     rw [← hnm] at hr hcl
     clear hnm hm hcl'
     by_cases h3 : kn nm = 3
     ·rw [if_neg (fun h => h.2 h3)] at hr
      have tq : (nm.toList == ([70, 108, 97, 116, 101, 68, 101, 99, 111, 100, 101] : List UInt8)) = true := neq_t _ rfl (kn_3 h3).symm
      subst hr
      clear h3
      go_wp2_with fail
      go_ret
      exact ⟨rfl, HB.out⟩
     ·rw [if_pos ⟨hc2, h3⟩] at hr
      have tq : (nm.toList == ([70, 108, 97, 116, 101, 68, 101, 99, 111, 100, 101] : List UInt8)) = false := neq_f _ rfl (ne_defl h3)
      subst hr
      clear h3
      go_wp2_with fail
      go_ret
      exact ⟨rfl, HB.out⟩
   ·have q3 : decide ((0 : Int) < c) = false := decide_eq_false hc2
    rw [if_neg (fun h => hc2 h.1)] at hr
    subst hr
    go_wp2_with fail
    go_ret
    exact ⟨rfl, HB.out⟩
theorem chk_len {l : List ByteArray} {c : Int} (h : cchkF l c = 0) : l.length ≤ 4 ∧ ∀ i, i < l.length → kn (l.getD i ⟨#[]⟩) ≠ 0 := by
 unfold cchkF at h
 split at h
 ·omega
 split at h
 ·omega
 split at h
 ·omega
 ·rename_i _ h1 h2
  exact ⟨by omega, fun i hi h0 => h2 ⟨i, hi, h0⟩⟩
theorem drop_getD {l : List ByteArray} {m : Nat} (h : m < l.length) : l.drop m = l.getD m ⟨#[]⟩ :: l.drop (m + 1) := by
 rw [List.drop_eq_getElem_cons h, List.getD_eq_getElem?_getD, List.getElem?_eq_getElem h]
 rfl
end Go.Proofs.YtghoifkaikddlaaGreat.Hand
namespace Go.Proofs.YtghoifkaikddlaaGreat.Hand
open Go.RowKit Go.Proofs.YtghoifkaikddlaaGreatW.PrintWords Go.Proofs.YtghoifkaikddlaaGreatW.PrintLast Go.Proofs.YtghoifkaikddlaaGreat.Num
set_option linter.unusedVariables false
set_option linter.unusedSimpArgs false
def foldOn (ON : Nat → ByteArray → ByteArray) (l : List ByteArray) (s : ByteArray) : ByteArray := l.foldr (fun nm x => ON (kn nm) x) s
structure OnOk (ON : Nat → ByteArray → ByteArray) (K : Nat → Prop) : Prop where
 c1 : K 1 → ∀ (s : ByteArray) (w : World), s.size ≤ 60000 → Calls Tryz.prog 49 #[.string s] w fun e w' => e = .returned (.string (ON 1 s)) ∧ Below w.heap.size w w'
 c2 : K 2 → ∀ (s : ByteArray) (w : World), s.size ≤ 60000 → Calls Tryz.prog 51 #[.string s] w fun e w' => e = .returned (.string (ON 2 s)) ∧ Below w.heap.size w w'
 c3 : K 3 → ∀ (s : ByteArray) (w : World), s.size ≤ 60000 → Calls Tryz.prog 53 #[.string s] w fun e w' => e = .returned (.string (ON 3 s)) ∧ Below w.heap.size w w'
 sz : ∀ (k : Nat) (s : ByteArray), K k → s.size ≤ 60000 → (ON k s).size ≤ 2 * s.size + 20
def encF (ON : Nat → ByteArray → ByteArray) (PE : ByteArray → Int → ByteArray × Int) (l : List ByteArray) (c : Int) (s : ByteArray) : ByteArray × Int :=
 if cchkF l c = 0 then (if 0 < c then (if (PE s c).2 = 0 then (foldOn ON l (PE s c).1, 0) else (⟨#[]⟩, (PE s c).2)) else (foldOn ON l s, 0)) else (⟨#[]⟩, cchkF l c)
theorem pow_mono (a : Nat) {j n : Nat} (h : j ≤ n) : 2 ^ j * a ≤ 2 ^ n * a := Nat.mul_le_mul_right _ (Nat.pow_le_pow_right (by omega) h)
set_option maxRecDepth 100000 in
set_option maxHeartbeats 8000000 in
theorem encode_calls (ON : Nat → ByteArray → ByteArray) (PE : ByteArray → Int → ByteArray × Int) (K : Nat → Prop) (OK : OnOk ON K) (A : Option Addr) (n cap : Nat) (l : List ByteArray) (c : Int) (s : ByteArray) (w : World) (hn : n = l.length) (hl : Strs w A l)
  (hK0 : cchkF l c = 0 → ∀ i, i < l.length → K (kn (l.getD i ⟨#[]⟩))) (hs : s.size ≤ 1000000) (hsz : l.length ≤ 4 → 2 ^ l.length * (s.size + 20) ≤ 60000)
  (hP : cchkF l c = 0 → 0 < c → (∀ W, Calls Tryz.prog 25 #[.string s, .int .i64 c] W fun e w' => e = .returned (.tuple #[.string (PE s c).1, .int .i64 (PE s c).2]) ∧ Below W.heap.size W w') ∧ 2 ^ l.length * ((PE s c).1.size + 20) ≤ 60000) :
  Calls Tryz.prog 17 #[.slice A n cap, .int .i64 c, .string s] w fun e w' => e = .returned (.tuple #[.string (encF ON PE l c s).1, .int .i64 (encF ON PE l c s).2]) ∧ Below w.heap.size w w' := by
 have HN := Aside0.mk hn
 have KC := Aside0.mk (fun W (h : Strs W A l) => ccheck_calls A n cap l c W hn h)
 have hb0 : decide ((1048576 : Int) < (s.size : Int)) = false := decide_eq_false (by omega)
 clear hn
 by_cases hc : cchkF l c = 0
 ·obtain ⟨h4, hkn⟩ := chk_len hc
  have hK := hK0 hc
  clear hK0
  -- the rounds, from any text
  have hP2 := hP hc
  obtain ⟨r, hr⟩ : ∃ r, r = encF ON PE l c s := ⟨_, rfl⟩
  rw [← hr]
  unfold encF at hr
  rw [if_pos hc] at hr
  rw [hc] at KC
  clear hc hP
  have HSZ0 := Aside0.mk (hsz h4)
  by_cases hc0 : 0 < c
  ·have q0 : decide ((0 : Int) < c) = true := decide_eq_true hc0
   rw [if_pos hc0] at hr
   obtain ⟨KP0, hps⟩ := hP2 hc0
   clear hP2
   obtain ⟨⟨p1, pe⟩, hpe⟩ : ∃ p, p = PE s c := ⟨_, rfl⟩
   rw [← hpe] at hr KP0 hps
   have HPS := Aside0.mk hps
   clear hpe hps
   have KP := Aside0.mk KP0
   clear KP0
   dsimp only at KP hr HPS
   by_cases hpz : pe = 0
   ·subst hpz
    rw [if_pos rfl] at hr
    subst hr
    obtain ⟨R, hR⟩ : ∃ R, R = foldOn ON l p1 := ⟨_, rfl⟩
    rw [← hR]
    have HR := Aside0.mk hR
    clear hR
    dsimp only
    go_enter Tryz.func17, Tryz.ntmps17
    go_wp2_with (first | (go_at_call 19; (with_reducible refine (KC.out _ hl).mono ?_); rintro e w1 ⟨rfl, hb1⟩) | (go_at_call 25; (with_reducible refine (KP.out _).mono ?_); rintro e w1' ⟨rfl, hbp⟩; have hb1 := hb1.trans (hbp.mono hb1.size); clear hbp))
    go_loopw [2, 11] (fun v2 v11 wr => ∃ (i : Nat) (z : Int) (x : ByteArray), i ≤ n ∧ v11 = .int .i64 z ∧ v2 = .string x ∧ Aside0 (z = (i : Int) - 1) ∧ Aside0 (x = foldOn ON (l.drop i) p1) ∧ Aside0 (x.size + 20 ≤ 2 ^ (n - i) * (p1.size + 20)) ∧ Aside0 (Below w.heap.size w wr)) (fun _ v11 _ => (intOf v11 + 1).toNat)
    case atStart => exact ⟨n, (n : Int) - 1, p1, Nat.le_refl _, by rw [w64 (by omega) (by have := HN.out; omega)], rfl, ⟨rfl⟩, ⟨by rw [HN.out, List.drop_length]; rfl⟩, ⟨by rw [Nat.sub_self]; omega⟩, ⟨hb1⟩⟩
    case round =>
     obtain ⟨i, z, x, hi, rfl, rfl, HZ, HX, HS, HB⟩ := hrel
     rcases Nat.eq_zero_or_pos i with rfl | hpos
     ·have hz : z = -1 := by rw [HZ.out]; rfl
      subst hz
      have hx : x = R := by rw [HX.out, HR.out, List.drop_zero]
      subst hx
      go_wp2_with fail
      go_returns
      exact ⟨rfl, HB.out⟩
     ·obtain ⟨m, rfl⟩ : ∃ m, i = m + 1 := ⟨i - 1, by omega⟩
      have hz : z = (m : Int) := by rw [HZ.out]; omega
      subst hz
      have r1 : decide ((0 : Int) ≤ (m : Int)) = true := decide_eq_true (by omega)
      have hm : m < n := by omega
      have hml : m < l.length := by have := HN.out; omega
      obtain ⟨ad, rfl, hcl⟩ := (hl.below HB.out) m hml
      have hk0 := hkn m hml
      have hkK := hK m hml
      have hdr := drop_getD hml
      obtain ⟨nm, hnm⟩ : ∃ nm, nm = l.getD m ⟨#[]⟩ := ⟨_, rfl⟩
      rw [← hnm] at hcl hk0 hkK hdr
      have KF := Aside0.mk (fun W => find_calls nm 0 W)
      have hle := kn_le nm
      have HDR := Aside0.mk hdr
      have hxs : x.size ≤ 60000 := by
       have h1 := HS.out
       have h2 := pow_mono (p1.size + 20) (Nat.sub_le n (m + 1))
       have h3 := HPS.out
       rw [← HN.out] at h3
       omega
      have HSZ := Aside0.mk (OK.sz (kn nm) x hkK hxs)
      have hpw : 2 ^ (n - m) = 2 * 2 ^ (n - (m + 1)) := by rw [show n - m = n - (m + 1) + 1 by omega, Nat.pow_succ]; omega
      have HPW := Aside0.mk hpw
      clear hnm hdr hpw
      obtain ⟨k, hk⟩ : ∃ k, k = kn nm := ⟨_, rfl⟩
      rw [← hk] at KF hk0 hkK hle HSZ
      have HKK := Aside0.mk hk
      clear hk
      rcases (by omega : k = 1 ∨ k = 2 ∨ k = 3) with rfl | rfl | rfl
      ·have KO := Aside0.mk (fun W => OK.c1 hkK x W hxs)
       go_wp2_with (first | (go_at_call 26; (with_reducible refine (KF.out _).mono ?_); rintro e w2 ⟨rfl, hb2⟩; have tb0 := heap_alloc_new w2 (.cells #[.string ⟨#[]⟩, .nilFunc, .nilFunc] 51)) | (refine wpList_store_rowTo rfl 51 _ _ rfl rfl w2.heap.size #[.string hexN, .func (.func 49) #[] #[], .func (.func 50) #[] #[]] rfl rfl 51 _ tb0 filtInfo rfl (filt_one _ _ _ _) ?_; have tb := setRow_heap _ _ _ #[.string hexN, .func (.func 49) #[] #[], .func (.func 50) #[] #[]] _ _ tb0; have HB3 := Aside0.mk (below_box (HB.out.trans (hb2.mono HB.out.size)) (.cells #[.string ⟨#[]⟩, .nilFunc, .nilFunc] 51) #[.string hexN, .func (.func 49) #[] #[], .func (.func 50) #[] #[]]); clear tb0 hb2; generalize World.setRow _ _ #[.string hexN, .func (.func 49) #[] #[], .func (.func 50) #[] #[]] = W5 at tb HB3 ⊢; have e1 := blk_cell tb 1) | (go_at_call 49; (with_reducible refine (KO.out _).mono ?_); rintro e w6 ⟨rfl, hb6⟩))
       go_roundw
       case rel => exact ⟨m, (m : Int) - 1, _, by omega, rfl, rfl, ⟨rfl⟩, ⟨by rw [HDR.out]; show _ = ON (kn nm) (foldOn ON (l.drop (m + 1)) p1); rw [← HKK.out, ← HX.out]⟩, ⟨by rw [HPW.out, Nat.mul_assoc]; have := HS.out; have := HSZ.out; omega⟩, ⟨HB3.out.trans (hb6.mono HB3.out.size)⟩⟩
       case measure => simp [intOf]
      ·have KO := Aside0.mk (fun W => OK.c2 hkK x W hxs)
       go_wp2_with (first | (go_at_call 26; (with_reducible refine (KF.out _).mono ?_); rintro e w2 ⟨rfl, hb2⟩; have tb0 := heap_alloc_new w2 (.cells #[.string ⟨#[]⟩, .nilFunc, .nilFunc] 51)) | (refine wpList_store_rowTo rfl 51 _ _ rfl rfl w2.heap.size #[.string runsN, .func (.func 51) #[] #[], .func (.func 52) #[.int .i64 0] #[]] rfl rfl 51 _ tb0 filtInfo rfl (filt_one _ _ _ _) ?_; have tb := setRow_heap _ _ _ #[.string runsN, .func (.func 51) #[] #[], .func (.func 52) #[.int .i64 0] #[]] _ _ tb0; have HB3 := Aside0.mk (below_box (HB.out.trans (hb2.mono HB.out.size)) (.cells #[.string ⟨#[]⟩, .nilFunc, .nilFunc] 51) #[.string runsN, .func (.func 51) #[] #[], .func (.func 52) #[.int .i64 0] #[]]); clear tb0 hb2; generalize World.setRow _ _ #[.string runsN, .func (.func 51) #[] #[], .func (.func 52) #[.int .i64 0] #[]] = W5 at tb HB3 ⊢; have e1 := blk_cell tb 1) | (go_at_call 51; (with_reducible refine (KO.out _).mono ?_); rintro e w6 ⟨rfl, hb6⟩))
       go_roundw
       case rel => exact ⟨m, (m : Int) - 1, _, by omega, rfl, rfl, ⟨rfl⟩, ⟨by rw [HDR.out]; show _ = ON (kn nm) (foldOn ON (l.drop (m + 1)) p1); rw [← HKK.out, ← HX.out]⟩, ⟨by rw [HPW.out, Nat.mul_assoc]; have := HS.out; have := HSZ.out; omega⟩, ⟨HB3.out.trans (hb6.mono HB3.out.size)⟩⟩
       case measure => simp [intOf]
      ·have KO := Aside0.mk (fun W => OK.c3 hkK x W hxs)
       go_wp2_with (first | (go_at_call 26; (with_reducible refine (KF.out _).mono ?_); rintro e w2 ⟨rfl, hb2⟩; have tb0 := heap_alloc_new w2 (.cells #[.string ⟨#[]⟩, .nilFunc, .nilFunc] 51)) | (refine wpList_store_rowTo rfl 51 _ _ rfl rfl w2.heap.size #[.string deflN, .func (.func 53) #[] #[], .func (.func 54) #[.int .i64 0] #[]] rfl rfl 51 _ tb0 filtInfo rfl (filt_one _ _ _ _) ?_; have tb := setRow_heap _ _ _ #[.string deflN, .func (.func 53) #[] #[], .func (.func 54) #[.int .i64 0] #[]] _ _ tb0; have HB3 := Aside0.mk (below_box (HB.out.trans (hb2.mono HB.out.size)) (.cells #[.string ⟨#[]⟩, .nilFunc, .nilFunc] 51) #[.string deflN, .func (.func 53) #[] #[], .func (.func 54) #[.int .i64 0] #[]]); clear tb0 hb2; generalize World.setRow _ _ #[.string deflN, .func (.func 53) #[] #[], .func (.func 54) #[.int .i64 0] #[]] = W5 at tb HB3 ⊢; have e1 := blk_cell tb 1) | (go_at_call 53; (with_reducible refine (KO.out _).mono ?_); rintro e w6 ⟨rfl, hb6⟩))
       go_roundw
       case rel => exact ⟨m, (m : Int) - 1, _, by omega, rfl, rfl, ⟨rfl⟩, ⟨by rw [HDR.out]; show _ = ON (kn nm) (foldOn ON (l.drop (m + 1)) p1); rw [← HKK.out, ← HX.out]⟩, ⟨by rw [HPW.out, Nat.mul_assoc]; have := HS.out; have := HSZ.out; omega⟩, ⟨HB3.out.trans (hb6.mono HB3.out.size)⟩⟩
       case measure => simp [intOf]
   ·rw [if_neg hpz] at hr
    have t0 : (pe != 0) = true := bne_iff_ne.2 hpz
    subst hr
    dsimp only
    go_enter Tryz.func17, Tryz.ntmps17
    go_wp2_with (first | (go_at_call 19; (with_reducible refine (KC.out _ hl).mono ?_); rintro e w1 ⟨rfl, hb1⟩) | (go_at_call 25; (with_reducible refine (KP.out _).mono ?_); rintro e w1' ⟨rfl, hbp⟩))
    go_returns
    exact ⟨rfl, hb1.trans (hbp.mono hb1.size)⟩
  ·have q0 : decide ((0 : Int) < c) = false := decide_eq_false hc0
   rw [if_neg hc0] at hr
   subst hr
   clear hP2
   obtain ⟨R, hR⟩ : ∃ R, R = foldOn ON l s := ⟨_, rfl⟩
   rw [← hR]
   have HR := Aside0.mk hR
   clear hR
   dsimp only
   go_enter Tryz.func17, Tryz.ntmps17
   go_wp2_with (first | (go_at_call 19; (with_reducible refine (KC.out _ hl).mono ?_); rintro e w1 ⟨rfl, hb1⟩))
   go_loopw [2, 11] (fun v2 v11 wr => ∃ (i : Nat) (z : Int) (x : ByteArray), i ≤ n ∧ v11 = .int .i64 z ∧ v2 = .string x ∧ Aside0 (z = (i : Int) - 1) ∧ Aside0 (x = foldOn ON (l.drop i) s) ∧ Aside0 (x.size + 20 ≤ 2 ^ (n - i) * (s.size + 20)) ∧ Aside0 (Below w.heap.size w wr)) (fun _ v11 _ => (intOf v11 + 1).toNat)
   case atStart => exact ⟨n, (n : Int) - 1, s, Nat.le_refl _, by rw [w64 (by omega) (by have := HN.out; omega)], rfl, ⟨rfl⟩, ⟨by rw [HN.out, List.drop_length]; rfl⟩, ⟨by rw [Nat.sub_self]; omega⟩, ⟨hb1⟩⟩
   case round =>
    obtain ⟨i, z, x, hi, rfl, rfl, HZ, HX, HS, HB⟩ := hrel
    rcases Nat.eq_zero_or_pos i with rfl | hpos
    ·have hz : z = -1 := by rw [HZ.out]; rfl
     subst hz
     have hx : x = R := by rw [HX.out, HR.out, List.drop_zero]
     subst hx
     go_wp2_with fail
     go_returns
     exact ⟨rfl, HB.out⟩
    ·obtain ⟨m, rfl⟩ : ∃ m, i = m + 1 := ⟨i - 1, by omega⟩
     have hz : z = (m : Int) := by rw [HZ.out]; omega
     subst hz
     have r1 : decide ((0 : Int) ≤ (m : Int)) = true := decide_eq_true (by omega)
     have hm : m < n := by omega
     have hml : m < l.length := by have := HN.out; omega
     obtain ⟨ad, rfl, hcl⟩ := (hl.below HB.out) m hml
     have hk0 := hkn m hml
     have hkK := hK m hml
     have hdr := drop_getD hml
     obtain ⟨nm, hnm⟩ : ∃ nm, nm = l.getD m ⟨#[]⟩ := ⟨_, rfl⟩
     rw [← hnm] at hcl hk0 hkK hdr
     have KF := Aside0.mk (fun W => find_calls nm 0 W)
     have hle := kn_le nm
     have HDR := Aside0.mk hdr
     have hxs : x.size ≤ 60000 := by
      have h1 := HS.out
      have h2 := pow_mono (s.size + 20) (Nat.sub_le n (m + 1))
      have h3 := HSZ0.out
      rw [← HN.out] at h3
      omega
     have HSZ := Aside0.mk (OK.sz (kn nm) x hkK hxs)
     have hpw : 2 ^ (n - m) = 2 * 2 ^ (n - (m + 1)) := by rw [show n - m = n - (m + 1) + 1 by omega, Nat.pow_succ]; omega
     have HPW := Aside0.mk hpw
     clear hnm hdr hpw
     obtain ⟨k, hk⟩ : ∃ k, k = kn nm := ⟨_, rfl⟩
     rw [← hk] at KF hk0 hkK hle HSZ
     have HKK := Aside0.mk hk
     clear hk
     rcases (by omega : k = 1 ∨ k = 2 ∨ k = 3) with rfl | rfl | rfl
     ·have KO := Aside0.mk (fun W => OK.c1 hkK x W hxs)
      go_wp2_with (first | (go_at_call 26; (with_reducible refine (KF.out _).mono ?_); rintro e w2 ⟨rfl, hb2⟩; have tb0 := heap_alloc_new w2 (.cells #[.string ⟨#[]⟩, .nilFunc, .nilFunc] 51)) | (refine wpList_store_rowTo rfl 51 _ _ rfl rfl w2.heap.size #[.string hexN, .func (.func 49) #[] #[], .func (.func 50) #[] #[]] rfl rfl 51 _ tb0 filtInfo rfl (filt_one _ _ _ _) ?_; have tb := setRow_heap _ _ _ #[.string hexN, .func (.func 49) #[] #[], .func (.func 50) #[] #[]] _ _ tb0; have HB3 := Aside0.mk (below_box (HB.out.trans (hb2.mono HB.out.size)) (.cells #[.string ⟨#[]⟩, .nilFunc, .nilFunc] 51) #[.string hexN, .func (.func 49) #[] #[], .func (.func 50) #[] #[]]); clear tb0 hb2; generalize World.setRow _ _ #[.string hexN, .func (.func 49) #[] #[], .func (.func 50) #[] #[]] = W5 at tb HB3 ⊢; have e1 := blk_cell tb 1) | (go_at_call 49; (with_reducible refine (KO.out _).mono ?_); rintro e w6 ⟨rfl, hb6⟩))
      go_roundw
      case rel => exact ⟨m, (m : Int) - 1, _, by omega, rfl, rfl, ⟨rfl⟩, ⟨by rw [HDR.out]; show _ = ON (kn nm) (foldOn ON (l.drop (m + 1)) s); rw [← HKK.out, ← HX.out]⟩, ⟨by rw [HPW.out, Nat.mul_assoc]; have := HS.out; have := HSZ.out; omega⟩, ⟨HB3.out.trans (hb6.mono HB3.out.size)⟩⟩
      case measure => simp [intOf]
     ·have KO := Aside0.mk (fun W => OK.c2 hkK x W hxs)
      go_wp2_with (first | (go_at_call 26; (with_reducible refine (KF.out _).mono ?_); rintro e w2 ⟨rfl, hb2⟩; have tb0 := heap_alloc_new w2 (.cells #[.string ⟨#[]⟩, .nilFunc, .nilFunc] 51)) | (refine wpList_store_rowTo rfl 51 _ _ rfl rfl w2.heap.size #[.string runsN, .func (.func 51) #[] #[], .func (.func 52) #[.int .i64 0] #[]] rfl rfl 51 _ tb0 filtInfo rfl (filt_one _ _ _ _) ?_; have tb := setRow_heap _ _ _ #[.string runsN, .func (.func 51) #[] #[], .func (.func 52) #[.int .i64 0] #[]] _ _ tb0; have HB3 := Aside0.mk (below_box (HB.out.trans (hb2.mono HB.out.size)) (.cells #[.string ⟨#[]⟩, .nilFunc, .nilFunc] 51) #[.string runsN, .func (.func 51) #[] #[], .func (.func 52) #[.int .i64 0] #[]]); clear tb0 hb2; generalize World.setRow _ _ #[.string runsN, .func (.func 51) #[] #[], .func (.func 52) #[.int .i64 0] #[]] = W5 at tb HB3 ⊢; have e1 := blk_cell tb 1) | (go_at_call 51; (with_reducible refine (KO.out _).mono ?_); rintro e w6 ⟨rfl, hb6⟩))
      go_roundw
      case rel => exact ⟨m, (m : Int) - 1, _, by omega, rfl, rfl, ⟨rfl⟩, ⟨by rw [HDR.out]; show _ = ON (kn nm) (foldOn ON (l.drop (m + 1)) s); rw [← HKK.out, ← HX.out]⟩, ⟨by rw [HPW.out, Nat.mul_assoc]; have := HS.out; have := HSZ.out; omega⟩, ⟨HB3.out.trans (hb6.mono HB3.out.size)⟩⟩
      case measure => simp [intOf]
     ·have KO := Aside0.mk (fun W => OK.c3 hkK x W hxs)
      go_wp2_with (first | (go_at_call 26; (with_reducible refine (KF.out _).mono ?_); rintro e w2 ⟨rfl, hb2⟩; have tb0 := heap_alloc_new w2 (.cells #[.string ⟨#[]⟩, .nilFunc, .nilFunc] 51)) | (refine wpList_store_rowTo rfl 51 _ _ rfl rfl w2.heap.size #[.string deflN, .func (.func 53) #[] #[], .func (.func 54) #[.int .i64 0] #[]] rfl rfl 51 _ tb0 filtInfo rfl (filt_one _ _ _ _) ?_; have tb := setRow_heap _ _ _ #[.string deflN, .func (.func 53) #[] #[], .func (.func 54) #[.int .i64 0] #[]] _ _ tb0; have HB3 := Aside0.mk (below_box (HB.out.trans (hb2.mono HB.out.size)) (.cells #[.string ⟨#[]⟩, .nilFunc, .nilFunc] 51) #[.string deflN, .func (.func 53) #[] #[], .func (.func 54) #[.int .i64 0] #[]]); clear tb0 hb2; generalize World.setRow _ _ #[.string deflN, .func (.func 53) #[] #[], .func (.func 54) #[.int .i64 0] #[]] = W5 at tb HB3 ⊢; have e1 := blk_cell tb 1) | (go_at_call 53; (with_reducible refine (KO.out _).mono ?_); rintro e w6 ⟨rfl, hb6⟩))
      go_roundw
      case rel => exact ⟨m, (m : Int) - 1, _, by omega, rfl, rfl, ⟨rfl⟩, ⟨by rw [HDR.out]; show _ = ON (kn nm) (foldOn ON (l.drop (m + 1)) s); rw [← HKK.out, ← HX.out]⟩, ⟨by rw [HPW.out, Nat.mul_assoc]; have := HS.out; have := HSZ.out; omega⟩, ⟨HB3.out.trans (hb6.mono HB3.out.size)⟩⟩
      case measure => simp [intOf]
 ·have hr : encF ON PE l c s = (⟨#[]⟩, cchkF l c) := by unfold encF; rw [if_neg hc]
  rw [hr]
  generalize cchkF l c = k at *
  have t0 : (k != 0) = true := bne_iff_ne.2 hc
  clear hr hP
  go_enter Tryz.func17, Tryz.ntmps17
  go_wp2_with (first | (go_at_call 19; (with_reducible refine (KC.out _ hl).mono ?_); rintro e w1 ⟨rfl, hb1⟩))
  go_returns
  exact ⟨rfl, hb1⟩
end Go.Proofs.YtghoifkaikddlaaGreat.Hand
namespace Go.Proofs.YtghoifkaikddlaaGreat.Hand
open Go.RowKit Go.Proofs.YtghoifkaikddlaaGreatW.PrintWords Go.Proofs.YtghoifkaikddlaaGreatW.PrintLast Go.Proofs.YtghoifkaikddlaaGreat.Num
set_option linter.unusedVariables false
set_option linter.unusedSimpArgs false
def foldOff (OFF : Nat → ByteArray → Int → ByteArray × Int) (m : Int) : List ByteArray → ByteArray → ByteArray × Int
 | [], s => (s, 0)
 | nm :: l, s => if (OFF (kn nm) s m).2 = 0 then foldOff OFF m l (OFF (kn nm) s m).1 else (⟨#[]⟩, (OFF (kn nm) s m).2)
structure OffOk (OFF : Nat → ByteArray → Int → ByteArray × Int) (K : Nat → Prop) : Prop where
 c1 : K 1 → ∀ (s : ByteArray) (m : Int) (w : World), s.size ≤ 60000 → Calls Tryz.prog 50 #[.string s] w fun e w' => e = .returned (.tuple #[.string (OFF 1 s m).1, .int .i64 (OFF 1 s m).2]) ∧ Below w.heap.size w w'
 c2 : K 2 → ∀ (s : ByteArray) (m : Int) (w : World), s.size ≤ 60000 → 0 ≤ m → m ≤ 60000 → Calls Tryz.prog 52 #[.int .i64 m, .string s] w fun e w' => e = .returned (.tuple #[.string (OFF 2 s m).1, .int .i64 (OFF 2 s m).2]) ∧ Below w.heap.size w w'
 c3 : K 3 → ∀ (s : ByteArray) (m : Int) (w : World), s.size ≤ 60000 → 0 ≤ m → m ≤ 60000 → Calls Tryz.prog 54 #[.int .i64 m, .string s] w fun e w' => e = .returned (.tuple #[.string (OFF 3 s m).1, .int .i64 (OFF 3 s m).2]) ∧ Below w.heap.size w w'
 sz : ∀ (k : Nat) (s : ByteArray) (m : Int), K k → s.size ≤ 60000 → 0 ≤ m → m ≤ 60000 → (OFF k s m).1.size ≤ max s.size m.toNat
def lastF (PD : ByteArray → Int → ByteArray × Int) (c most : Int) (r : ByteArray × Int) : ByteArray × Int :=
 if r.2 = 0 then (if 0 < c then (if (PD r.1 c).2 = 0 then (if most < ((PD r.1 c).1.size : Int) then (⟨#[]⟩, 7) else ((PD r.1 c).1, 0)) else (⟨#[]⟩, (PD r.1 c).2)) else (if most < (r.1.size : Int) then (⟨#[]⟩, 7) else (r.1, 0))) else (⟨#[]⟩, r.2)
def decF (OFF : Nat → ByteArray → Int → ByteArray × Int) (PD : ByteArray → Int → ByteArray × Int) (l : List ByteArray) (c : Int) (s : ByteArray) (most : Int) : ByteArray × Int :=
 if cchkF l c = 0 then (if most < 0 ∨ 1048576 < most then (⟨#[]⟩, 2) else lastF PD c most (foldOff OFF (16 * most + 1024) l s)) else (⟨#[]⟩, cchkF l c)
set_option maxRecDepth 100000 in
set_option maxHeartbeats 8000000 in
theorem decode_calls (OFF : Nat → ByteArray → Int → ByteArray × Int) (PD : ByteArray → Int → ByteArray × Int) (K : Nat → Prop) (OK : OffOk OFF K) (A : Option Addr) (n cap : Nat) (l : List ByteArray) (c : Int) (s : ByteArray) (most : Int) (w : World) (hn : n = l.length) (hl : Strs w A l)
  (hK0 : cchkF l c = 0 → ∀ i, i < l.length → K (kn (l.getD i ⟨#[]⟩))) (hs : s.size ≤ 60000) (hmost : most ≤ 3000)
  (hP : cchkF l c = 0 → 0 < c → (foldOff OFF (16 * most + 1024) l s).2 = 0 → ∀ W, Calls Tryz.prog 32 #[.string (foldOff OFF (16 * most + 1024) l s).1, .int .i64 c] W fun e w' => e = .returned (.tuple #[.string (PD (foldOff OFF (16 * most + 1024) l s).1 c).1, .int .i64 (PD (foldOff OFF (16 * most + 1024) l s).1 c).2]) ∧ Below W.heap.size W w') :
  Calls Tryz.prog 21 #[.slice A n cap, .int .i64 c, .string s, .int .i64 most] w fun e w' => e = .returned (.tuple #[.string (decF OFF PD l c s most).1, .int .i64 (decF OFF PD l c s most).2]) ∧ Below w.heap.size w w' := by
 have HN := Aside0.mk hn
 have KC := Aside0.mk (fun W (h : Strs W A l) => ccheck_calls A n cap l c W hn h)
 have hb0 : decide ((1048576 : Int) < most) = false := decide_eq_false (by omega)
 clear hn
 by_cases hc : cchkF l c = 0
 ·obtain ⟨h4, hkn⟩ := chk_len hc
  have hK := hK0 hc
  clear hK0
  have HP := Aside0.mk (hP hc)
  obtain ⟨r, hr⟩ : ∃ r, r = decF OFF PD l c s most := ⟨_, rfl⟩
  rw [← hr]
  unfold decF at hr
  rw [if_pos hc] at hr
  rw [hc] at KC
  clear hc hP
  by_cases hm : most < 0
  ·have q0 : decide (most < (0 : Int)) = true := decide_eq_true hm
   rw [if_pos (.inl hm)] at hr
   subst hr
   dsimp only
   go_enter Tryz.func21, Tryz.ntmps21
   go_wp2_with (first | (go_at_call 19; (with_reducible refine (KC.out _ hl).mono ?_); rintro e w1 ⟨rfl, hb1⟩))
   go_returns
   exact ⟨rfl, hb1⟩
  ·have q0 : decide (most < (0 : Int)) = false := decide_eq_false hm
   rw [if_neg (by omega)] at hr
   obtain ⟨M, hM⟩ : ∃ M, M = 16 * most + 1024 := ⟨_, rfl⟩
   rw [← hM] at hr HP
   have wM1 : wrap64 (16 * most) = 16 * most := w64 (by omega) (by omega)
   have wM2 : wrap64 (16 * most + 1024) = M := by rw [w64 (by omega) (by omega), hM]
   have hM0 : 0 ≤ M := by omega
   have hM1 : M ≤ 60000 := by omega
   have hMr := hM.symm
   clear hM
   obtain ⟨R, hR⟩ : ∃ R, R = foldOff OFF M l s := ⟨_, rfl⟩
   rw [← hR] at hr HP
   have HR := Aside0.mk hR
   have Hr := Aside0.mk hr
   clear hR hr
   go_enter Tryz.func21, Tryz.ntmps21
   go_wp2_with (first | (go_at_call 19; (with_reducible refine (KC.out _ hl).mono ?_); rintro e w1 ⟨rfl, hb1⟩))
   go_loopw [2, 33] (fun v2 v33 wr => ∃ (i : Nat) (x : ByteArray), i ≤ n ∧ v33 = .int .i64 (i : Int) ∧ v2 = .string x ∧ Aside0 (R = foldOff OFF M (l.drop i) x) ∧ Aside0 (x.size ≤ max s.size M.toNat) ∧ Aside0 (Below w.heap.size w wr)) (fun _ v33 _ => n - (intOf v33).toNat)
   case atStart => exact ⟨0, s, Nat.zero_le _, rfl, rfl, ⟨by rw [HR.out, List.drop_zero]⟩, ⟨Nat.le_max_left _ _⟩, ⟨hb1⟩⟩
   case round =>
    clear hb1 KC HR
    obtain ⟨i, x, hi, rfl, rfl, HX, HS, HB⟩ := hrel
    have hxs : x.size ≤ 60000 := by have := HS.out; omega
    by_cases hlt : i < n
    ·have r1 : decide ((i : Int) < (n : Int)) = true := decide_eq_true (by omega)
     have hil : i < l.length := by have := HN.out; omega
     obtain ⟨ad, rfl, hcl⟩ := (hl.below HB.out) i hil
     have hk0 := hkn i hil
     have hkK := hK i hil
     have hdr := drop_getD hil
     obtain ⟨nm, hnm⟩ : ∃ nm, nm = l.getD i ⟨#[]⟩ := ⟨_, rfl⟩
     rw [← hnm] at hcl hk0 hkK hdr
     have KF := Aside0.mk (fun W => find_calls nm M W)
     have hle := kn_le nm
     have hx := HX.out
     rw [hdr, foldOff] at hx
     clear hnm hdr HX
     have HSZ := Aside0.mk (OK.sz (kn nm) x M hkK hxs hM0 hM1)
     obtain ⟨k, hk⟩ : ∃ k, k = kn nm := ⟨_, rfl⟩
     rw [← hk] at KF hk0 hkK hle HSZ hx
     clear hk
     have HX2 := Aside0.mk hx
     clear hx
     rcases (by omega : k = 1 ∨ k = 2 ∨ k = 3) with rfl | rfl | rfl
     ·have KO := Aside0.mk (fun W => OK.c1 hkK x M W hxs)
      generalize OFF 1 x M = p at KO HX2 HSZ
      obtain ⟨p1, pe⟩ := p
      dsimp only at KO HX2 HSZ
      by_cases hpz : pe = 0
      ·subst hpz
       go_wp2_with (first | (go_at_call 26; (with_reducible refine (KF.out _).mono ?_); rintro e w2 ⟨rfl, hb2⟩; have tb0 := heap_alloc_new w2 (.cells #[.string ⟨#[]⟩, .nilFunc, .nilFunc] 51)) | (refine wpList_store_rowTo rfl 51 _ _ rfl rfl w2.heap.size #[.string hexN, .func (.func 49) #[] #[], .func (.func 50) #[] #[]] rfl rfl 51 _ tb0 filtInfo rfl (filt_one _ _ _ _) ?_; have tb := setRow_heap _ _ _ #[.string hexN, .func (.func 49) #[] #[], .func (.func 50) #[] #[]] _ _ tb0; have HB3 := Aside0.mk (below_box (HB.out.trans (hb2.mono HB.out.size)) (.cells #[.string ⟨#[]⟩, .nilFunc, .nilFunc] 51) #[.string hexN, .func (.func 49) #[] #[], .func (.func 50) #[] #[]]); clear tb0 hb2; generalize World.setRow _ _ #[.string hexN, .func (.func 49) #[] #[], .func (.func 50) #[] #[]] = W5 at tb HB3 ⊢; have e2 := blk_cell tb 2) | (go_at_call 50; (with_reducible refine (KO.out _).mono ?_); rintro e w6 ⟨rfl, hb6⟩))
       go_roundw
       case rel => exact ⟨i + 1, p1, by omega, by go_num, rfl, ⟨by rw [HX2.out]; simp⟩, ⟨by have := HSZ.out; have := HS.out; omega⟩, ⟨HB3.out.trans (hb6.mono HB3.out.size)⟩⟩
       case measure => simp [intOf]; omega
      ·have t0 : (pe != 0) = true := bne_iff_ne.2 hpz
       have hx := HX2.out
       rw [if_neg hpz] at hx
       have hr := Hr.out
       rw [hx] at hr
       unfold lastF at hr
       dsimp only at hr
       rw [if_neg hpz] at hr
       subst hr
       clear Hr HX2 hx
       go_wp2_with (first | (go_at_call 26; (with_reducible refine (KF.out _).mono ?_); rintro e w2 ⟨rfl, hb2⟩; have tb0 := heap_alloc_new w2 (.cells #[.string ⟨#[]⟩, .nilFunc, .nilFunc] 51)) | (refine wpList_store_rowTo rfl 51 _ _ rfl rfl w2.heap.size #[.string hexN, .func (.func 49) #[] #[], .func (.func 50) #[] #[]] rfl rfl 51 _ tb0 filtInfo rfl (filt_one _ _ _ _) ?_; have tb := setRow_heap _ _ _ #[.string hexN, .func (.func 49) #[] #[], .func (.func 50) #[] #[]] _ _ tb0; have HB3 := Aside0.mk (below_box (HB.out.trans (hb2.mono HB.out.size)) (.cells #[.string ⟨#[]⟩, .nilFunc, .nilFunc] 51) #[.string hexN, .func (.func 49) #[] #[], .func (.func 50) #[] #[]]); clear tb0 hb2; generalize World.setRow _ _ #[.string hexN, .func (.func 49) #[] #[], .func (.func 50) #[] #[]] = W5 at tb HB3 ⊢; have e2 := blk_cell tb 2) | (go_at_call 50; (with_reducible refine (KO.out _).mono ?_); rintro e w6 ⟨rfl, hb6⟩))
       repeat (rw [Exit.noGoto_ret])
       show bodyPost _ _ _ _ _ _
       go_returns
       exact ⟨rfl, HB3.out.trans (hb6.mono HB3.out.size)⟩
     ·have KO := Aside0.mk (fun W => OK.c2 hkK x M W hxs hM0 hM1)
      generalize OFF 2 x M = p at KO HX2 HSZ
      obtain ⟨p1, pe⟩ := p
      dsimp only at KO HX2 HSZ
      by_cases hpz : pe = 0
      ·subst hpz
       go_wp2_with (first | (go_at_call 26; (with_reducible refine (KF.out _).mono ?_); rintro e w2 ⟨rfl, hb2⟩; have tb0 := heap_alloc_new w2 (.cells #[.string ⟨#[]⟩, .nilFunc, .nilFunc] 51)) | (refine wpList_store_rowTo rfl 51 _ _ rfl rfl w2.heap.size #[.string runsN, .func (.func 51) #[] #[], .func (.func 52) #[.int .i64 M] #[]] rfl rfl 51 _ tb0 filtInfo rfl (filt_one _ _ _ _) ?_; have tb := setRow_heap _ _ _ #[.string runsN, .func (.func 51) #[] #[], .func (.func 52) #[.int .i64 M] #[]] _ _ tb0; have HB3 := Aside0.mk (below_box (HB.out.trans (hb2.mono HB.out.size)) (.cells #[.string ⟨#[]⟩, .nilFunc, .nilFunc] 51) #[.string runsN, .func (.func 51) #[] #[], .func (.func 52) #[.int .i64 M] #[]]); clear tb0 hb2; generalize World.setRow _ _ #[.string runsN, .func (.func 51) #[] #[], .func (.func 52) #[.int .i64 M] #[]] = W5 at tb HB3 ⊢; have e2 := blk_cell tb 2) | (go_at_call 52; (with_reducible refine (KO.out _).mono ?_); rintro e w6 ⟨rfl, hb6⟩))
       go_roundw
       case rel => exact ⟨i + 1, p1, by omega, by go_num, rfl, ⟨by rw [HX2.out]; simp⟩, ⟨by have := HSZ.out; have := HS.out; omega⟩, ⟨HB3.out.trans (hb6.mono HB3.out.size)⟩⟩
       case measure => simp [intOf]; omega
      ·have t0 : (pe != 0) = true := bne_iff_ne.2 hpz
       have hx := HX2.out
       rw [if_neg hpz] at hx
       have hr := Hr.out
       rw [hx] at hr
       unfold lastF at hr
       dsimp only at hr
       rw [if_neg hpz] at hr
       subst hr
       clear Hr HX2 hx
       go_wp2_with (first | (go_at_call 26; (with_reducible refine (KF.out _).mono ?_); rintro e w2 ⟨rfl, hb2⟩; have tb0 := heap_alloc_new w2 (.cells #[.string ⟨#[]⟩, .nilFunc, .nilFunc] 51)) | (refine wpList_store_rowTo rfl 51 _ _ rfl rfl w2.heap.size #[.string runsN, .func (.func 51) #[] #[], .func (.func 52) #[.int .i64 M] #[]] rfl rfl 51 _ tb0 filtInfo rfl (filt_one _ _ _ _) ?_; have tb := setRow_heap _ _ _ #[.string runsN, .func (.func 51) #[] #[], .func (.func 52) #[.int .i64 M] #[]] _ _ tb0; have HB3 := Aside0.mk (below_box (HB.out.trans (hb2.mono HB.out.size)) (.cells #[.string ⟨#[]⟩, .nilFunc, .nilFunc] 51) #[.string runsN, .func (.func 51) #[] #[], .func (.func 52) #[.int .i64 M] #[]]); clear tb0 hb2; generalize World.setRow _ _ #[.string runsN, .func (.func 51) #[] #[], .func (.func 52) #[.int .i64 M] #[]] = W5 at tb HB3 ⊢; have e2 := blk_cell tb 2) | (go_at_call 52; (with_reducible refine (KO.out _).mono ?_); rintro e w6 ⟨rfl, hb6⟩))
       repeat (rw [Exit.noGoto_ret])
       show bodyPost _ _ _ _ _ _
       go_returns
       exact ⟨rfl, HB3.out.trans (hb6.mono HB3.out.size)⟩
     ·have KO := Aside0.mk (fun W => OK.c3 hkK x M W hxs hM0 hM1)
      generalize OFF 3 x M = p at KO HX2 HSZ
      obtain ⟨p1, pe⟩ := p
      dsimp only at KO HX2 HSZ
      by_cases hpz : pe = 0
      ·subst hpz
       go_wp2_with (first | (go_at_call 26; (with_reducible refine (KF.out _).mono ?_); rintro e w2 ⟨rfl, hb2⟩; have tb0 := heap_alloc_new w2 (.cells #[.string ⟨#[]⟩, .nilFunc, .nilFunc] 51)) | (refine wpList_store_rowTo rfl 51 _ _ rfl rfl w2.heap.size #[.string deflN, .func (.func 53) #[] #[], .func (.func 54) #[.int .i64 M] #[]] rfl rfl 51 _ tb0 filtInfo rfl (filt_one _ _ _ _) ?_; have tb := setRow_heap _ _ _ #[.string deflN, .func (.func 53) #[] #[], .func (.func 54) #[.int .i64 M] #[]] _ _ tb0; have HB3 := Aside0.mk (below_box (HB.out.trans (hb2.mono HB.out.size)) (.cells #[.string ⟨#[]⟩, .nilFunc, .nilFunc] 51) #[.string deflN, .func (.func 53) #[] #[], .func (.func 54) #[.int .i64 M] #[]]); clear tb0 hb2; generalize World.setRow _ _ #[.string deflN, .func (.func 53) #[] #[], .func (.func 54) #[.int .i64 M] #[]] = W5 at tb HB3 ⊢; have e2 := blk_cell tb 2) | (go_at_call 54; (with_reducible refine (KO.out _).mono ?_); rintro e w6 ⟨rfl, hb6⟩))
       go_roundw
       case rel => exact ⟨i + 1, p1, by omega, by go_num, rfl, ⟨by rw [HX2.out]; simp⟩, ⟨by have := HSZ.out; have := HS.out; omega⟩, ⟨HB3.out.trans (hb6.mono HB3.out.size)⟩⟩
       case measure => simp [intOf]; omega
      ·have t0 : (pe != 0) = true := bne_iff_ne.2 hpz
       have hx := HX2.out
       rw [if_neg hpz] at hx
       have hr := Hr.out
       rw [hx] at hr
       unfold lastF at hr
       dsimp only at hr
       rw [if_neg hpz] at hr
       subst hr
       clear Hr HX2 hx
       go_wp2_with (first | (go_at_call 26; (with_reducible refine (KF.out _).mono ?_); rintro e w2 ⟨rfl, hb2⟩; have tb0 := heap_alloc_new w2 (.cells #[.string ⟨#[]⟩, .nilFunc, .nilFunc] 51)) | (refine wpList_store_rowTo rfl 51 _ _ rfl rfl w2.heap.size #[.string deflN, .func (.func 53) #[] #[], .func (.func 54) #[.int .i64 M] #[]] rfl rfl 51 _ tb0 filtInfo rfl (filt_one _ _ _ _) ?_; have tb := setRow_heap _ _ _ #[.string deflN, .func (.func 53) #[] #[], .func (.func 54) #[.int .i64 M] #[]] _ _ tb0; have HB3 := Aside0.mk (below_box (HB.out.trans (hb2.mono HB.out.size)) (.cells #[.string ⟨#[]⟩, .nilFunc, .nilFunc] 51) #[.string deflN, .func (.func 53) #[] #[], .func (.func 54) #[.int .i64 M] #[]]); clear tb0 hb2; generalize World.setRow _ _ #[.string deflN, .func (.func 53) #[] #[], .func (.func 54) #[.int .i64 M] #[]] = W5 at tb HB3 ⊢; have e2 := blk_cell tb 2) | (go_at_call 54; (with_reducible refine (KO.out _).mono ?_); rintro e w6 ⟨rfl, hb6⟩))
       repeat (rw [Exit.noGoto_ret])
       show bodyPost _ _ _ _ _ _
       go_returns
       exact ⟨rfl, HB3.out.trans (hb6.mono HB3.out.size)⟩
    ·have r1 : decide ((i : Int) < (n : Int)) = false := decide_eq_false (by omega)
     obtain rfl : i = n := by omega
     have hx := HX.out
     rw [HN.out, List.drop_length, foldOff] at hx
     have hr := Hr.out
     rw [hx] at hr HP
     unfold lastF at hr
     dsimp only at hr HP
     rw [if_pos rfl] at hr
     clear Hr HX hx hlt hi
     by_cases hc0 : 0 < c
     ·have q1 : decide ((0 : Int) < c) = true := decide_eq_true hc0
      rw [if_pos hc0] at hr
      have KP := Aside0.mk (fun W => HP.out hc0 rfl W)
      generalize PD x c = p at hr KP
      obtain ⟨p1, pe⟩ := p
      dsimp only at hr KP
      by_cases hpz : pe = 0
      ·subst hpz
       rw [if_pos rfl] at hr
       by_cases hsz : most < (p1.size : Int)
       ·have q2 : decide (most < (p1.size : Int)) = true := decide_eq_true hsz
        rw [if_pos hsz] at hr
        subst hr
        clear hsz
        go_wp2_with (first | (go_at_call 32; (with_reducible refine (KP.out _).mono ?_); rintro e w1' ⟨rfl, hbp⟩))
        go_returns
        exact ⟨rfl, HB.out.trans (hbp.mono HB.out.size)⟩
       ·have q2 : decide (most < (p1.size : Int)) = false := decide_eq_false hsz
        rw [if_neg hsz] at hr
        subst hr
        clear hsz
        go_wp2_with (first | (go_at_call 32; (with_reducible refine (KP.out _).mono ?_); rintro e w1' ⟨rfl, hbp⟩))
        go_returns
        exact ⟨rfl, HB.out.trans (hbp.mono HB.out.size)⟩
      ·rw [if_neg hpz] at hr
       have t0 : (pe != 0) = true := bne_iff_ne.2 hpz
       subst hr
       go_wp2_with (first | (go_at_call 32; (with_reducible refine (KP.out _).mono ?_); rintro e w1' ⟨rfl, hbp⟩))
       go_returns
       exact ⟨rfl, HB.out.trans (hbp.mono HB.out.size)⟩
     ·have q1 : decide ((0 : Int) < c) = false := decide_eq_false hc0
      rw [if_neg hc0] at hr
      by_cases hsz : most < (x.size : Int)
      ·have q2 : decide (most < (x.size : Int)) = true := decide_eq_true hsz
       rw [if_pos hsz] at hr
       subst hr
       clear hsz
       go_wp2_with fail
       go_returns
       exact ⟨rfl, HB.out⟩
      ·have q2 : decide (most < (x.size : Int)) = false := decide_eq_false hsz
       rw [if_neg hsz] at hr
       subst hr
       clear hsz
       go_wp2_with fail
       go_returns
       exact ⟨rfl, HB.out⟩
 ·have hr : decF OFF PD l c s most = (⟨#[]⟩, cchkF l c) := by unfold decF; rw [if_neg hc]
  rw [hr]
  generalize cchkF l c = k at *
  have t0 : (k != 0) = true := bne_iff_ne.2 hc
  clear hr hP
  go_enter Tryz.func21, Tryz.ntmps21
  go_wp2_with (first | (go_at_call 19; (with_reducible refine (KC.out _ hl).mono ?_); rintro e w1 ⟨rfl, hb1⟩))
  go_returns
  exact ⟨rfl, hb1⟩
end Go.Proofs.YtghoifkaikddlaaGreat.Hand
