/- coat: the filters' table, and the one of a name; walked by hand. -/
import Derived.Test.YtghoifkaikddlaaGreatBits
import Derived.Great.BuildSlice
import Derived.Handy
import Derived.WalkMore
import Derived.MapKept
namespace Go.Proofs.YtghoifkaikddlaaGreat.Hand
open Go.RowKit Go.Proofs.YtghoifkaikddlaaGreatW.PrintWords Go.Proofs.YtghoifkaikddlaaGreatW.PrintLast Go.Proofs.YtghoifkaikddlaaGreat.Num
set_option linter.unusedVariables false
set_option linter.unusedSimpArgs false
abbrev hexN : ByteArray := ⟨#[65, 83, 67, 73, 73, 72, 101, 120, 68, 101, 99, 111, 100, 101]⟩
abbrev runsN : ByteArray := ⟨#[82, 117, 110, 76, 101, 110, 103, 116, 104, 68, 101, 99, 111, 100, 101]⟩
abbrev deflN : ByteArray := ⟨#[70, 108, 97, 116, 101, 68, 101, 99, 111, 100, 101]⟩
/-- Which filter a name is; 0: none. -/
def kn (s : ByteArray) : Nat := if s = hexN then 1 else if s = runsN then 2 else if s = deflN then 3 else 0
/-- A filter's cells, with so much room. -/
def fcells : Nat → Int → Array Value
  | 1, _ => #[.string hexN, .func (.func 49) #[] #[], .func (.func 50) #[] #[]]
  | 2, n => #[.string runsN, .func (.func 51) #[] #[], .func (.func 52) #[.int .i64 n] #[]]
  | 3, n => #[.string deflN, .func (.func 53) #[] #[], .func (.func 54) #[.int .i64 n] #[]]
  | _, _ => #[.string ⟨#[]⟩, .nilFunc, .nilFunc]
/-- The table of all filters. -/
abbrev ftab (n : Int) : Array Value := #[.string hexN, .func (.func 49) #[] #[], .func (.func 50) #[] #[], .string runsN, .func (.func 51) #[] #[], .func (.func 52) #[.int .i64 n] #[], .string deflN, .func (.func 53) #[] #[], .func (.func 54) #[.int .i64 n] #[]]
theorem fr_row14 (w : World) (g : Nat) (cs : Array Value) : Fr w (w.setRow g cs) (· = g) := ⟨rfl, rfl, rfl, by simp, fun k _ hn => setRow_other w g k cs hn⟩
theorem kn_le (s : ByteArray) : kn s ≤ 3 := by
  unfold kn
  split
  · omega
  · split
    · omega
    · split <;> omega
theorem kn_1 {s : ByteArray} (h : kn s = 1) : s = hexN := by
  unfold kn at h
  split at h
  · assumption
  · split at h
    · omega
    · split at h <;> omega
theorem kn_2 {s : ByteArray} (h : kn s = 2) : s = runsN := by
  unfold kn at h
  split at h
  · omega
  · split at h
    · assumption
    · split at h <;> omega
theorem kn_3 {s : ByteArray} (h : kn s = 3) : s = deflN := by
  unfold kn at h
  split at h
  · omega
  · split at h
    · omega
    · split at h
      · assumption
      · omega
theorem filters_calls (n : Int) (w : World) :
    Calls Tryz.prog 37 #[.int .i64 n] w fun e w' => e = .returned (.slice (some ⟨w.heap.size, 0, none⟩) 3 3) ∧ w' = w.alloc (.cells (ftab n) 51) := by
  go_enter Tryz.func37, Tryz.ntmps37
  go_wp2
  go_ret
  exact ⟨rfl, rfl⟩
theorem filtInfo : (Tryz.prog.info? 51).map (·.size) = some 3 := by kernel_rfl
theorem filt_one (s : ByteArray) (a b : Nat) (p : Array Value) : (#[.string s, .func (.func a) #[] #[], .func (.func b) p #[]] : Array Value).all (·.oneCell') = true := by simp [Value.oneCell']
theorem beq_t {a b : ByteArray} (l : List UInt8) (hl : a.data.toList = l) (h : a = b) : (l == b.toList) = true := by
  subst h
  rw [ByteArray.toList_eq, hl, beq_self_eq_true]
theorem beq_f {a b : ByteArray} (l : List UInt8) (hl : a.data.toList = l) (h : a ≠ b) : (l == b.toList) = false := by
  rw [Bool.eq_false_iff]
  intro e
  have e2 := beq_iff_eq.1 e
  rw [ByteArray.toList_eq, ← hl] at e2
  exact h (ByteArray.ext (Array.toList_inj.1 e2))
set_option maxRecDepth 100000 in
set_option maxHeartbeats 8000000 in
theorem find_calls (name : ByteArray) (n : Int) (w : World) :
    Calls Tryz.prog 26 #[.string name, .int .i64 n] w fun e w' => e = .returned (.tuple #[.agg (fcells (kn name) n), .bool (decide (kn name ≠ 0))]) ∧ Below w.heap.size w w' := by
  go_enter Tryz.func26, Tryz.ntmps26
  go_wp2_with (first | (go_at_call 37; (with_reducible refine (filters_calls _ _).mono ?_); rintro e w1 ⟨rfl, rfl⟩))
  have hz := blk_alloc (heap_alloc_new w (.cells #[.string ⟨#[]⟩, .nilFunc, .nilFunc] 51)) (.cells (ftab n) 51)
  have hg := heap_alloc_new (w.alloc (.cells #[.string ⟨#[]⟩, .nilFunc, .nilFunc] 51)) (.cells (ftab n) 51)
  have hB := below_alloc (below_alloc (Below.refl w.heap.size w) (.cells #[.string ⟨#[]⟩, .nilFunc, .nilFunc] 51)) (.cells (ftab n) 51)
  simp only [World.size_alloc] at hg ⊢
  obtain ⟨z, hz'⟩ : ∃ z, z = w.heap.size := ⟨_, rfl⟩
  obtain ⟨g, hg'⟩ : ∃ g, g = w.heap.size + 1 := ⟨_, rfl⟩
  have hzw : w.heap.size ≤ z := Nat.le_of_eq hz'.symm
  rw [← hg'] at hg ⊢
  rw [← hz'] at hz ⊢
  have HW := Aside0.mk hz'
  clear hz' hg'
  generalize (w.alloc _).alloc _ = w1 at hz hg hB ⊢
  go_loopw [11] (fun v11 wr => ∃ i : Nat, i ≤ 3 ∧ v11 = .int .i64 (i : Int) ∧ (∀ j, j < i → kn name ≠ j + 1) ∧ Aside0 (wr.heap[z]? = some (.cells #[.string ⟨#[]⟩, .nilFunc, .nilFunc] 51 (0, 0))) ∧ Aside0 (wr.heap[g]? = some (.cells (ftab n) 51 (0, 0))) ∧ Aside0 (Below w.heap.size w wr)) (fun v11 _ => 3 - (intOf v11).toNat)
  case atStart => exact ⟨0, by omega, rfl, fun j hj => absurd hj (Nat.not_lt_zero j), ⟨hz⟩, ⟨hg⟩, ⟨hB⟩⟩
  case round =>
    obtain ⟨i, hi, rfl, hno, HZ, HG, HB⟩ := hrel
    clear hz hg hB
    rcases (by omega : i = 0 ∨ i = 1 ∨ i = 2 ∨ i = 3) with rfl | rfl | rfl | rfl
    
    · have d0 : wr.cell? ⟨g, 0, none⟩ = some (.string hexN) := blk_cell HG.out 0
      have d1 : wr.cell? ⟨g, 1, none⟩ = some (.func (.func 49) #[] #[]) := blk_cell HG.out 1
      have d2 : wr.cell? ⟨g, 2, none⟩ = some (.func (.func 50) #[] #[]) := blk_cell HG.out 2
      have tb0 := heap_alloc_new wr (.cells #[.string ⟨#[]⟩, .nilFunc, .nilFunc] 51)
      have zb0 := blk_alloc HZ.out (.cells #[.string ⟨#[]⟩, .nilFunc, .nilFunc] 51)
      have gb0 := blk_alloc HG.out (.cells #[.string ⟨#[]⟩, .nilFunc, .nilFunc] 51)
      have hzT : z ≠ wr.heap.size := Nat.ne_of_lt (blk_lt HZ.out)
      have hgT : g ≠ wr.heap.size := Nat.ne_of_lt (blk_lt HG.out)
      have hB4 := below_alloc HB.out (.cells #[.string ⟨#[]⟩, .nilFunc, .nilFunc] 51)
      by_cases hn : hexN = name
      · have tq : (([65, 83, 67, 73, 73, 72, 101, 120, 68, 101, 99, 111, 100, 101] : List UInt8) == name.toList) = true := beq_t _ rfl hn
        have hk : kn name = 1 := by rw [← hn]; decide
        clear hn
        go_wp2_with (first | (refine wpList_store_rowTo rfl 51 _ _ rfl rfl wr.heap.size #[.string hexN, .func (.func 49) #[] #[], .func (.func 50) #[] #[]] rfl rfl 51 _ tb0 filtInfo rfl (filt_one _ _ _ _) ?_; have tb := setRow_heap _ _ _ #[.string hexN, .func (.func 49) #[] #[], .func (.func 50) #[] #[]] _ _ tb0; have zb := (setRow_other _ _ z #[.string hexN, .func (.func 49) #[] #[], .func (.func 50) #[] #[]] hzT).trans zb0; have gb := (setRow_other _ _ g #[.string hexN, .func (.func 49) #[] #[], .func (.func 50) #[] #[]] hgT).trans gb0; have hB5 := hB4.trans ((fr_row14 _ wr.heap.size #[.string hexN, .func (.func 49) #[] #[], .func (.func 50) #[] #[]]).below (by rintro k rfl; exact HB.out.size) hB4.size); clear tb0 zb0 gb0 hB4; generalize World.setRow _ _ #[.string hexN, .func (.func 49) #[] #[], .func (.func 50) #[] #[]] = W5 at tb zb gb hB5 ⊢; have e0 := blk_cell tb 0; have e1 := blk_cell tb 1; have e2 := blk_cell tb 2) | (refine wpList_load_row rfl 51 _ rfl wr.heap.size rfl 51 _ (0, 0) _ tb Tryz.underlying51 rfl filtInfo ?_) | (refine wpList_store_rowTo rfl 51 _ _ rfl rfl z #[.string hexN, .func (.func 49) #[] #[], .func (.func 50) #[] #[]] rfl rfl 51 _ zb filtInfo rfl (filt_one _ _ _ _) ?_))
        repeat (rw [Exit.noGoto_ret])
        show bodyPost _ _ _ _ _ _
        have hq := setRow_heap _ _ _ #[.string hexN, .func (.func 49) #[] #[], .func (.func 50) #[] #[]] _ _ zb
        exact bodyPost_ret (results_ct rfl _ _ z 51 #[.string hexN, .func (.func 49) #[] #[], .func (.func 50) #[] #[]] (0, 0) _ rfl hq Tryz.underlying51 rfl filtInfo) rfl ⟨by rw [hk]; rfl, hB5.trans ((fr_row14 _ z _).below (by rintro k rfl; exact hzw) hB5.size)⟩
      · have tq : (([65, 83, 67, 73, 73, 72, 101, 120, 68, 101, 99, 111, 100, 101] : List UInt8) == name.toList) = false := beq_f _ rfl hn
        have hk : ¬ kn name = 1 := fun e => hn (kn_1 e).symm
        go_wp2_with (first | (refine wpList_store_rowTo rfl 51 _ _ rfl rfl wr.heap.size #[.string hexN, .func (.func 49) #[] #[], .func (.func 50) #[] #[]] rfl rfl 51 _ tb0 filtInfo rfl (filt_one _ _ _ _) ?_; have tb := setRow_heap _ _ _ #[.string hexN, .func (.func 49) #[] #[], .func (.func 50) #[] #[]] _ _ tb0; have zb := (setRow_other _ _ z #[.string hexN, .func (.func 49) #[] #[], .func (.func 50) #[] #[]] hzT).trans zb0; have gb := (setRow_other _ _ g #[.string hexN, .func (.func 49) #[] #[], .func (.func 50) #[] #[]] hgT).trans gb0; have hB5 := hB4.trans ((fr_row14 _ wr.heap.size #[.string hexN, .func (.func 49) #[] #[], .func (.func 50) #[] #[]]).below (by rintro k rfl; exact HB.out.size) hB4.size); clear tb0 zb0 gb0 hB4; generalize World.setRow _ _ #[.string hexN, .func (.func 49) #[] #[], .func (.func 50) #[] #[]] = W5 at tb zb gb hB5 ⊢; have e0 := blk_cell tb 0; have e1 := blk_cell tb 1; have e2 := blk_cell tb 2))
        go_roundw
        case rel => exact ⟨1, by omega, rfl, fun j hj => (by rcases (by omega : j < 0 ∨ j = 0 ∨ j = 1 ∨ j = 2) with h | rfl | rfl | rfl <;> first | omega | exact hk | exact hno _ (by omega)), ⟨zb⟩, ⟨gb⟩, ⟨hB5⟩⟩
        case measure => simp [intOf]
    · have d0 : wr.cell? ⟨g, 3, none⟩ = some (.string runsN) := blk_cell HG.out 3
      have d1 : wr.cell? ⟨g, 4, none⟩ = some (.func (.func 51) #[] #[]) := blk_cell HG.out 4
      have d2 : wr.cell? ⟨g, 5, none⟩ = some (.func (.func 52) #[.int .i64 n] #[]) := blk_cell HG.out 5
      have tb0 := heap_alloc_new wr (.cells #[.string ⟨#[]⟩, .nilFunc, .nilFunc] 51)
      have zb0 := blk_alloc HZ.out (.cells #[.string ⟨#[]⟩, .nilFunc, .nilFunc] 51)
      have gb0 := blk_alloc HG.out (.cells #[.string ⟨#[]⟩, .nilFunc, .nilFunc] 51)
      have hzT : z ≠ wr.heap.size := Nat.ne_of_lt (blk_lt HZ.out)
      have hgT : g ≠ wr.heap.size := Nat.ne_of_lt (blk_lt HG.out)
      have hB4 := below_alloc HB.out (.cells #[.string ⟨#[]⟩, .nilFunc, .nilFunc] 51)
      by_cases hn : runsN = name
      · have tq : (([82, 117, 110, 76, 101, 110, 103, 116, 104, 68, 101, 99, 111, 100, 101] : List UInt8) == name.toList) = true := beq_t _ rfl hn
        have hk : kn name = 2 := by rw [← hn]; decide
        clear hn
        go_wp2_with (first | (refine wpList_store_rowTo rfl 51 _ _ rfl rfl wr.heap.size #[.string runsN, .func (.func 51) #[] #[], .func (.func 52) #[.int .i64 n] #[]] rfl rfl 51 _ tb0 filtInfo rfl (filt_one _ _ _ _) ?_; have tb := setRow_heap _ _ _ #[.string runsN, .func (.func 51) #[] #[], .func (.func 52) #[.int .i64 n] #[]] _ _ tb0; have zb := (setRow_other _ _ z #[.string runsN, .func (.func 51) #[] #[], .func (.func 52) #[.int .i64 n] #[]] hzT).trans zb0; have gb := (setRow_other _ _ g #[.string runsN, .func (.func 51) #[] #[], .func (.func 52) #[.int .i64 n] #[]] hgT).trans gb0; have hB5 := hB4.trans ((fr_row14 _ wr.heap.size #[.string runsN, .func (.func 51) #[] #[], .func (.func 52) #[.int .i64 n] #[]]).below (by rintro k rfl; exact HB.out.size) hB4.size); clear tb0 zb0 gb0 hB4; generalize World.setRow _ _ #[.string runsN, .func (.func 51) #[] #[], .func (.func 52) #[.int .i64 n] #[]] = W5 at tb zb gb hB5 ⊢; have e0 := blk_cell tb 0; have e1 := blk_cell tb 1; have e2 := blk_cell tb 2) | (refine wpList_load_row rfl 51 _ rfl wr.heap.size rfl 51 _ (0, 0) _ tb Tryz.underlying51 rfl filtInfo ?_) | (refine wpList_store_rowTo rfl 51 _ _ rfl rfl z #[.string runsN, .func (.func 51) #[] #[], .func (.func 52) #[.int .i64 n] #[]] rfl rfl 51 _ zb filtInfo rfl (filt_one _ _ _ _) ?_))
        repeat (rw [Exit.noGoto_ret])
        show bodyPost _ _ _ _ _ _
        have hq := setRow_heap _ _ _ #[.string runsN, .func (.func 51) #[] #[], .func (.func 52) #[.int .i64 n] #[]] _ _ zb
        exact bodyPost_ret (results_ct rfl _ _ z 51 #[.string runsN, .func (.func 51) #[] #[], .func (.func 52) #[.int .i64 n] #[]] (0, 0) _ rfl hq Tryz.underlying51 rfl filtInfo) rfl ⟨by rw [hk]; rfl, hB5.trans ((fr_row14 _ z _).below (by rintro k rfl; exact hzw) hB5.size)⟩
      · have tq : (([82, 117, 110, 76, 101, 110, 103, 116, 104, 68, 101, 99, 111, 100, 101] : List UInt8) == name.toList) = false := beq_f _ rfl hn
        have hk : ¬ kn name = 2 := fun e => hn (kn_2 e).symm
        go_wp2_with (first | (refine wpList_store_rowTo rfl 51 _ _ rfl rfl wr.heap.size #[.string runsN, .func (.func 51) #[] #[], .func (.func 52) #[.int .i64 n] #[]] rfl rfl 51 _ tb0 filtInfo rfl (filt_one _ _ _ _) ?_; have tb := setRow_heap _ _ _ #[.string runsN, .func (.func 51) #[] #[], .func (.func 52) #[.int .i64 n] #[]] _ _ tb0; have zb := (setRow_other _ _ z #[.string runsN, .func (.func 51) #[] #[], .func (.func 52) #[.int .i64 n] #[]] hzT).trans zb0; have gb := (setRow_other _ _ g #[.string runsN, .func (.func 51) #[] #[], .func (.func 52) #[.int .i64 n] #[]] hgT).trans gb0; have hB5 := hB4.trans ((fr_row14 _ wr.heap.size #[.string runsN, .func (.func 51) #[] #[], .func (.func 52) #[.int .i64 n] #[]]).below (by rintro k rfl; exact HB.out.size) hB4.size); clear tb0 zb0 gb0 hB4; generalize World.setRow _ _ #[.string runsN, .func (.func 51) #[] #[], .func (.func 52) #[.int .i64 n] #[]] = W5 at tb zb gb hB5 ⊢; have e0 := blk_cell tb 0; have e1 := blk_cell tb 1; have e2 := blk_cell tb 2))
        go_roundw
        case rel => exact ⟨2, by omega, rfl, fun j hj => (by rcases (by omega : j < 0 ∨ j = 0 ∨ j = 1 ∨ j = 2) with h | rfl | rfl | rfl <;> first | omega | exact hk | exact hno _ (by omega)), ⟨zb⟩, ⟨gb⟩, ⟨hB5⟩⟩
        case measure => simp [intOf]
    · have d0 : wr.cell? ⟨g, 6, none⟩ = some (.string deflN) := blk_cell HG.out 6
      have d1 : wr.cell? ⟨g, 7, none⟩ = some (.func (.func 53) #[] #[]) := blk_cell HG.out 7
      have d2 : wr.cell? ⟨g, 8, none⟩ = some (.func (.func 54) #[.int .i64 n] #[]) := blk_cell HG.out 8
      have tb0 := heap_alloc_new wr (.cells #[.string ⟨#[]⟩, .nilFunc, .nilFunc] 51)
      have zb0 := blk_alloc HZ.out (.cells #[.string ⟨#[]⟩, .nilFunc, .nilFunc] 51)
      have gb0 := blk_alloc HG.out (.cells #[.string ⟨#[]⟩, .nilFunc, .nilFunc] 51)
      have hzT : z ≠ wr.heap.size := Nat.ne_of_lt (blk_lt HZ.out)
      have hgT : g ≠ wr.heap.size := Nat.ne_of_lt (blk_lt HG.out)
      have hB4 := below_alloc HB.out (.cells #[.string ⟨#[]⟩, .nilFunc, .nilFunc] 51)
      by_cases hn : deflN = name
      · have tq : (([70, 108, 97, 116, 101, 68, 101, 99, 111, 100, 101] : List UInt8) == name.toList) = true := beq_t _ rfl hn
        have hk : kn name = 3 := by rw [← hn]; decide
        clear hn
        go_wp2_with (first | (refine wpList_store_rowTo rfl 51 _ _ rfl rfl wr.heap.size #[.string deflN, .func (.func 53) #[] #[], .func (.func 54) #[.int .i64 n] #[]] rfl rfl 51 _ tb0 filtInfo rfl (filt_one _ _ _ _) ?_; have tb := setRow_heap _ _ _ #[.string deflN, .func (.func 53) #[] #[], .func (.func 54) #[.int .i64 n] #[]] _ _ tb0; have zb := (setRow_other _ _ z #[.string deflN, .func (.func 53) #[] #[], .func (.func 54) #[.int .i64 n] #[]] hzT).trans zb0; have gb := (setRow_other _ _ g #[.string deflN, .func (.func 53) #[] #[], .func (.func 54) #[.int .i64 n] #[]] hgT).trans gb0; have hB5 := hB4.trans ((fr_row14 _ wr.heap.size #[.string deflN, .func (.func 53) #[] #[], .func (.func 54) #[.int .i64 n] #[]]).below (by rintro k rfl; exact HB.out.size) hB4.size); clear tb0 zb0 gb0 hB4; generalize World.setRow _ _ #[.string deflN, .func (.func 53) #[] #[], .func (.func 54) #[.int .i64 n] #[]] = W5 at tb zb gb hB5 ⊢; have e0 := blk_cell tb 0; have e1 := blk_cell tb 1; have e2 := blk_cell tb 2) | (refine wpList_load_row rfl 51 _ rfl wr.heap.size rfl 51 _ (0, 0) _ tb Tryz.underlying51 rfl filtInfo ?_) | (refine wpList_store_rowTo rfl 51 _ _ rfl rfl z #[.string deflN, .func (.func 53) #[] #[], .func (.func 54) #[.int .i64 n] #[]] rfl rfl 51 _ zb filtInfo rfl (filt_one _ _ _ _) ?_))
        repeat (rw [Exit.noGoto_ret])
        show bodyPost _ _ _ _ _ _
        have hq := setRow_heap _ _ _ #[.string deflN, .func (.func 53) #[] #[], .func (.func 54) #[.int .i64 n] #[]] _ _ zb
        exact bodyPost_ret (results_ct rfl _ _ z 51 #[.string deflN, .func (.func 53) #[] #[], .func (.func 54) #[.int .i64 n] #[]] (0, 0) _ rfl hq Tryz.underlying51 rfl filtInfo) rfl ⟨by rw [hk]; rfl, hB5.trans ((fr_row14 _ z _).below (by rintro k rfl; exact hzw) hB5.size)⟩
      · have tq : (([70, 108, 97, 116, 101, 68, 101, 99, 111, 100, 101] : List UInt8) == name.toList) = false := beq_f _ rfl hn
        have hk : ¬ kn name = 3 := fun e => hn (kn_3 e).symm
        go_wp2_with (first | (refine wpList_store_rowTo rfl 51 _ _ rfl rfl wr.heap.size #[.string deflN, .func (.func 53) #[] #[], .func (.func 54) #[.int .i64 n] #[]] rfl rfl 51 _ tb0 filtInfo rfl (filt_one _ _ _ _) ?_; have tb := setRow_heap _ _ _ #[.string deflN, .func (.func 53) #[] #[], .func (.func 54) #[.int .i64 n] #[]] _ _ tb0; have zb := (setRow_other _ _ z #[.string deflN, .func (.func 53) #[] #[], .func (.func 54) #[.int .i64 n] #[]] hzT).trans zb0; have gb := (setRow_other _ _ g #[.string deflN, .func (.func 53) #[] #[], .func (.func 54) #[.int .i64 n] #[]] hgT).trans gb0; have hB5 := hB4.trans ((fr_row14 _ wr.heap.size #[.string deflN, .func (.func 53) #[] #[], .func (.func 54) #[.int .i64 n] #[]]).below (by rintro k rfl; exact HB.out.size) hB4.size); clear tb0 zb0 gb0 hB4; generalize World.setRow _ _ #[.string deflN, .func (.func 53) #[] #[], .func (.func 54) #[.int .i64 n] #[]] = W5 at tb zb gb hB5 ⊢; have e0 := blk_cell tb 0; have e1 := blk_cell tb 1; have e2 := blk_cell tb 2))
        go_roundw
        case rel => exact ⟨3, by omega, rfl, fun j hj => (by rcases (by omega : j < 0 ∨ j = 0 ∨ j = 1 ∨ j = 2) with h | rfl | rfl | rfl <;> first | omega | exact hk | exact hno _ (by omega)), ⟨zb⟩, ⟨gb⟩, ⟨hB5⟩⟩
        case measure => simp [intOf]
    · have zb := HZ.out
      have hk : kn name = 0 := by
        have a := hno 0 (by omega); have b := hno 1 (by omega); have c := hno 2 (by omega); have d := kn_le name
        omega
      go_wp2_with (first | (refine wpList_store_rowTo rfl 51 _ _ rfl rfl z #[.string ⟨#[]⟩, .nilFunc, .nilFunc] rfl rfl 51 _ zb filtInfo rfl (by simp [Value.oneCell']) ?_))
      repeat (rw [Exit.noGoto_ret])
      show bodyPost _ _ _ _ _ _
      have hq := setRow_heap _ _ _ #[.string ⟨#[]⟩, .nilFunc, .nilFunc] _ _ zb
      exact bodyPost_ret (results_ct rfl _ _ z 51 #[.string ⟨#[]⟩, .nilFunc, .nilFunc] (0, 0) _ rfl hq Tryz.underlying51 rfl filtInfo) rfl ⟨by rw [hk]; rfl, HB.out.trans ((fr_row14 _ z _).below (by rintro k rfl; exact hzw) HB.out.size)⟩
end Go.Proofs.YtghoifkaikddlaaGreat.Hand
