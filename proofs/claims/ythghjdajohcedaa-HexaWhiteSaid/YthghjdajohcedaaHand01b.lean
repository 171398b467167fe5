/- The iterator octet.Lines: its contract. -/
import Derived.RangeFuncNested
import Derived.RangeFuncBound
import Derived.RangeFuncCalls
import Derived.RangeFuncLeaves
import Derived.RangeFuncWrites
import Derived.RangeFuncBox
import Derived.Shelf.Abstract
import Derived.Shelf.RegionOpen
import Derived.WalkKit
import Derived.OwnWalkIn
import Derived.TacticsInMore
import Derived.LoopNIn
import Derived.LoopIn
import Derived.Test.YthghjdajohcedaaHand01
namespace Go.Proofs.Ythghjdajohcedaa.Hand
open Go.RowKit Go.Shelf Go.Proofs.YthghjdajohcedaaW.PrintWords Go.Proofs.YthghjdajohcedaaW.PrintLast Go.Proofs.YthghjdajohcedaaW.PrintMore Go.Proofs.Ythghjdajohcedaa.Num Go.Proofs.Ythghjdajohcedaa.P01a
set_option linter.unusedVariables false
set_option linter.unusedSimpArgs false
attribute [local go_sem] Oper.semAt_some

/-- How long the end of a line is. -/
def endsN (s : ByteArray) (i : Nat) : Nat :=
  if i < s.size then (if bt s (i : Int) = 10 then 1 else if bt s (i : Int) = 13 then (if i + 1 < s.size ∧ bt s ((i + 1 : Nat) : Int) = 10 then 2 else 1) else 0) else 0
theorem ends_f (s : ByteArray) (i : Nat) (hs : s.size ≤ 1000000) (hi : i ≤ s.size) : octet_Ends.f s i = some (endsN s i : Int) := by
  unfold octet_Ends.f octet_within.f endsN
  rw [if_pos (by omega), Option.bind_some]
  by_cases h : i < s.size
  · rw [if_pos (decide_eq_true (by omega)), if_pos (by omega), if_pos (by omega), if_pos h]
    by_cases h1 : bt s (i : Int) = 10
    · rw [if_pos h1, if_pos h1]; rfl
    · rw [if_neg h1, if_neg h1]
      by_cases h2 : bt s (i : Int) = 13
      · have e : (i : Int) + 1 = ((i + 1 : Nat) : Int) := by omega
        rw [if_pos h2, if_pos h2, e, w64 (by omega) (by omega)]
        by_cases h3 : i + 1 < s.size
        · rw [if_pos (by omega), if_pos (by omega)]
          by_cases h4 : bt s ((i + 1 : Nat) : Int) = 10
          · rw [if_pos h4, if_pos ⟨h3, h4⟩]; rfl
          · rw [if_neg h4, if_neg (fun h => h4 h.2)]; rfl
        · rw [if_neg (by omega), if_neg (fun h => h3 h.1)]; rfl
      · rw [if_neg h2, if_neg h2]; rfl
  · rw [if_neg (by rw [decide_eq_true_eq]; omega), if_neg h]; rfl
theorem ends_calls (s : ByteArray) (i : Nat) (hs : s.size ≤ 1000000) (hi : i ≤ s.size) (w : World) : Calls Try.prog 24 #[.string s, .int .i64 i] w fun e w' => e = .returned (.int .i64 (endsN s i : Int)) ∧ Drawn0 w w' :=
  octet_Ends.calls s i _ w (ends_f s i hs hi)
theorem endsN_le (s : ByteArray) (i : Nat) : i ≤ s.size → i + endsN s i ≤ s.size := by
  unfold endsN; split
  · split
    · omega
    · split
      · split <;> omega
      · omega
  · omega
/-- Where the end of a line stands, from a place on. -/
def scanN (s : ByteArray) : Nat → Nat → Nat
  | 0, i => i
  | f + 1, i => if i < s.size ∧ endsN s i = 0 then scanN s f (i + 1) else i
theorem scanN_ge (s : ByteArray) : ∀ f i, i ≤ scanN s f i
  | 0, i => Nat.le_refl _
  | f + 1, i => by
    rw [scanN]; split
    · have := scanN_ge s f (i + 1); omega
    · exact Nat.le_refl _
theorem scanN_stop (s : ByteArray) (f i : Nat) (h : ¬ (i < s.size ∧ endsN s i = 0)) : scanN s f i = i := by
  cases f with
  | zero => rfl
  | succ f => rw [scanN, if_neg h]
theorem scanN_step (s : ByteArray) (i : Nat) (h : i < s.size ∧ endsN s i = 0) : scanN s (s.size - i) i = scanN s (s.size - (i + 1)) (i + 1) := by
  rw [show s.size - i = (s.size - (i + 1)) + 1 by omega, scanN, if_pos h]
def endAt (s : ByteArray) (i : Nat) : Nat := scanN s (s.size - i) i
def nextN (s : ByteArray) (i : Nat) : Nat := endAt s i + endsN s (endAt s i)
theorem endAt_le (s : ByteArray) : ∀ d i, d = s.size - i → i ≤ s.size → endAt s i ≤ s.size
  | 0, i, hd, hi => by unfold endAt; rw [← hd]; exact hi
  | d + 1, i, hd, hi => by
    unfold endAt
    by_cases h : i < s.size ∧ endsN s i = 0
    · rw [scanN_step s i h]; exact endAt_le s d (i + 1) (by omega) (by omega)
    · rw [scanN_stop s _ i h]; exact hi
theorem endAt_end (s : ByteArray) : ∀ d i, d = s.size - i → ¬ (endAt s i < s.size ∧ endsN s (endAt s i) = 0)
  | 0, i, hd => by unfold endAt; rw [← hd]; intro h; have : i < s.size := h.1; omega
  | d + 1, i, hd => by
    unfold endAt
    by_cases h : i < s.size ∧ endsN s i = 0
    · rw [scanN_step s i h]; exact endAt_end s d (i + 1) (by omega)
    · rw [scanN_stop s _ i h]; exact h
theorem nextN_gt (s : ByteArray) (i : Nat) (h : i < s.size) : i < nextN s i := by
  have h1 := scanN_ge s (s.size - i) i
  have h2 := endAt_end s _ i rfl
  unfold nextN
  have h3 : i ≤ endAt s i := h1
  by_cases h4 : endAt s i < s.size
  · have : endsN s (endAt s i) ≠ 0 := fun h => h2 ⟨h4, h⟩
    omega
  · omega
theorem nextN_le (s : ByteArray) (i : Nat) (h : i ≤ s.size) : nextN s i ≤ s.size := endsN_le s _ (endAt_le s _ i rfl h)
/-- Where lines begin, from a place on. -/
def linesFrom (s : ByteArray) : Nat → Nat → List Nat
  | 0, _ => []
  | f + 1, i => if i < s.size then i :: linesFrom s f (nextN s i) else []
def linesN (s : ByteArray) : List Nat := linesFrom s s.size 0
theorem linesFrom_lt (s : ByteArray) : ∀ f i, ∀ x ∈ linesFrom s f i, x < s.size
  | 0, i, x, h => by cases h
  | f + 1, i, x, h => by
    rw [linesFrom] at h
    split at h
    · rcases List.mem_cons.1 h with rfl | h
      · assumption
      · exact linesFrom_lt s f _ x h
    · cases h
/-- What a round is handed. -/
def clN (s : ByteArray) (i : Nat) : Nat := min i s.size
theorem clN_le (s : ByteArray) (i : Nat) : clN s i ≤ s.size := Nat.min_le_right _ _
theorem clN_lt (s : ByteArray) (i : Nat) (h : i < s.size) : clN s i = i := Nat.min_eq_left (by omega)

/-- The captured text stays. -/
def KeepS (Bn : Nat) (s : ByteArray) (A B : World) : Prop := A.cell? ⟨Bn, 0, none⟩ = some (.string s) → B.cell? ⟨Bn, 0, none⟩ = some (.string s)
theorem keepS_t {Bn : Nat} {s : ByteArray} {A B C : World} (h : KeepS Bn s A B) (k : KeepS Bn s B C) : KeepS Bn s A C := fun e => k (h e)
theorem keepS_b {Bn : Nat} {s : ByteArray} {w : World} (W : World) (l : Nat) (o o' : Obj) (_ : w.heap.size ≤ l) (h : W.heap[l]? = some o) (ho : o.isCells = false) (_ : o.isWalk = false) : KeepS Bn s W (W.putObj l o') := fun e =>
  cell_kept e (grownBy_putObj' W l o') (fun r er => by cases er; exact ⟨o, h, ho⟩)

set_option maxRecDepth 100000 in
set_option maxHeartbeats 2000000 in
theorem lines1_in (n : Nat) (hn : 1 ≤ n) (l Bn : Nat) (s : ByteArray) (hs : s.size ≤ 1000000) (J Jx : List Nat → World → Prop) (hJd : ∀ pre W k, J pre W → J pre (W.drewN k))
    (hY : ∀ pre x W, J pre W → pre.length < s.size → YieldAt Fence.wide (n - 1) Try.prog l #[.int .i64 (clN s x : Int)] W fun e W' =>
      (e = .returned (.bool true) ∧ J (pre ++ [x]) W' ∧ KeepS Bn s W W') ∨ (e = .returned (.bool false) ∧ Jx (pre ++ [x]) W'))
    (W : World) (hBn : W.cell? ⟨Bn, 0, none⟩ = some (.string s)) (h0 : J [] W) :
    CallsIn Fence.wide n Try.prog 47 #[.func (.yield l) #[] #[], .pointer (some ⟨Bn, 0, none⟩)] W fun e W' => (∃ v, e = .returned v) ∧
      ((∃ ys, ys = linesN s ∧ J ys W') ∨ (∃ pre, pre <+: linesN s ∧ Jx pre W')) := by
  refine callsIn_of_wp Try.func47 rfl trivial ?_ rfl
  simp only [Try.ntmps47, List.size_toArray, List.length_cons, List.length_nil, Nat.reduceAdd, Nat.reduceSub, Array.replicate_succ, Array.replicate_zero, List.push_toArray, List.append_toArray, List.nil_append, List.cons_append]
  refine wpIn_wide.2 (wp_scope_straight ((wpIn_wide (n := n)).1 ?_))
  gi_wp2
  refine wpIn_wide.2 (wp_label ?_)
  gi_wp2
  gi_loopw [3] (fun v3 wr => ∃ (pre : List Nat) (i f : Nat), i ≤ s.size ∧ v3 = .int .i64 i ∧ Aside0 (linesN s = pre ++ linesFrom s f i) ∧ Aside0 (s.size - i ≤ f) ∧ Aside0 (pre.length ≤ i) ∧ J pre wr ∧ wr.cell? ⟨Bn, 0, none⟩ = some (.string s)) (fun v3 _ => s.size - (intOf v3).toNat)
  case atStart => exact ⟨[], 0, s.size, by omega, rfl, ⟨rfl⟩, ⟨by omega⟩, ⟨Nat.le_refl _⟩, h0, hBn⟩
  case round =>
    clear hBn h0
    obtain ⟨pre, i, f, hi, rfl, HL, HF, HP, hJ, hBn⟩ := hrel
    by_cases hlt : i < s.size
    · have q1 : decide ((i : Int) < (s.size : Int)) = true := decide_eq_true (by omega)
      obtain ⟨fn, tmps, assign, body, hy, hR⟩ := hY pre i wr hJ (by have := HP.out; omega)
      rw [clN_lt s i hlt] at hy
      obtain ⟨f, rfl⟩ : ∃ m, f = m + 1 := ⟨f - 1, by have := HF.out; omega⟩
      have hl := HL.out
      rw [linesFrom, if_pos hlt] at hl
      have HL2 := Aside0.mk hl
      clear hl HL
      gi_wp2
      refine hR.mono ?_
      rintro e W3 (⟨rfl, hJ3, hk3⟩ | ⟨rfl, hJx3⟩)
      · have hB3 : W3.cell? ⟨Bn, 0, none⟩ = some (.string s) := hk3 hBn
        clear hBn hJ
        obtain ⟨z, hz⟩ : ∃ z : Nat, z = endAt s i := ⟨_, rfl⟩
        have hzn : nextN s i = z + endsN s z := by rw [hz]; rfl
        have HZN := Aside0.mk hzn
        have HZ := Aside0.mk hz
        have hze := endAt_end s _ i rfl
        rw [← hz] at hze
        have hzl := endAt_le s _ i rfl hi
        rw [← hz] at hzl
        have hzg : i ≤ z := by rw [hz]; exact scanN_ge s _ _
        have hgt := nextN_gt s i hlt
        have hle := nextN_le s i hi
        rw [hzn] at hgt hle
        have HZE := Aside0.mk hze
        have HGT := Aside0.mk hgt
        clear hz hzn hze hgt
        gi_wp2
        gi_loopw [3] (fun v3 wr => ∃ (e : Nat), i ≤ e ∧ e ≤ s.size ∧ v3 = .int .i64 e ∧ Aside0 (endAt s e = z) ∧ J (pre ++ [i]) wr ∧ wr.cell? ⟨Bn, 0, none⟩ = some (.string s)) (fun v3 _ => s.size - (intOf v3).toNat)
        case atStart => exact ⟨i, Nat.le_refl _, hi, rfl, ⟨HZ.out.symm⟩, hJ3, hB3⟩
        case round =>
          clear hJ3 hB3
          obtain ⟨e, he1, he2, rfl, HE, hJ4, hB4⟩ := hrel
          have HEN := Aside0.mk (ends_calls s e hs he2)
          by_cases hin : e < s.size
          · have q2 : decide ((e : Int) < (s.size : Int)) = true := decide_eq_true (by omega)
            by_cases hen : endsN s e = 0
            · have q3 : ((endsN s e : Int) == 0) = true := beq_iff_eq.2 (by omega)
              gi_wp2_with (first | (refine ⟨trivial, ?_⟩; gi_at_call 24; refine callsIn_wide.2 ((HEN.out _).mono ?_); rintro e9 w1 ⟨rfl, ⟨nd, rfl⟩⟩))
              exact ⟨⟨e + 1, by omega, by omega, by go_num, ⟨by rw [← HE.out]; exact (scanN_step s e ⟨hin, hen⟩).symm⟩, hJd _ _ _ hJ4, hB4⟩, by simp [intOf]; omega⟩
            · have q3 : ((endsN s e : Int) == 0) = false := beq_eq_false_iff_ne.2 (by omega)
              have ez : e = z := by rw [← HE.out]; exact (scanN_stop s _ e (fun h => hen h.2)).symm
              subst ez
              gi_wp2_with (first | (refine ⟨trivial, ?_⟩; gi_at_call 24; refine callsIn_wide.2 ((HEN.out _).mono ?_); rintro e9 w1 ⟨rfl, ⟨nd, rfl⟩⟩))
              have hl := HL2.out
              rw [HZN.out] at hl
              exact ⟨⟨pre ++ [i], e + endsN s e, f, hle, by rw [Int.natCast_add], ⟨by rw [hl, List.append_assoc]; rfl⟩, ⟨by have := HF.out; have := HGT.out; omega⟩, ⟨by rw [List.length_append, List.length_singleton]; have := HP.out; have := HGT.out; omega⟩, hJd _ _ _ hJ4, hB4⟩, by simp [intOf]; have := HGT.out; omega⟩
          · have q2 : decide ((e : Int) < (s.size : Int)) = false := decide_eq_false (by omega)
            have ez : e = z := by rw [← HE.out]; exact (scanN_stop s _ e (fun h => hin h.1)).symm
            subst ez
            gi_wp2_with fail
            refine ⟨trivial, ?_⟩
            gi_wp2_with (first | (refine ⟨trivial, ?_⟩; gi_at_call 24; refine callsIn_wide.2 ((HEN.out _).mono ?_); rintro e9 w1 ⟨rfl, ⟨nd, rfl⟩⟩))
            have hl := HL2.out
            rw [HZN.out] at hl
            exact ⟨⟨pre ++ [i], e + endsN s e, f, hle, by rw [Int.natCast_add], ⟨by rw [hl, List.append_assoc]; rfl⟩, ⟨by have := HF.out; have := HGT.out; omega⟩, ⟨by rw [List.length_append, List.length_singleton]; have := HP.out; have := HGT.out; omega⟩, hJd _ _ _ hJ4, hB4⟩, by simp [intOf]; have := HGT.out; omega⟩
      · gi_wp2
        rw [Exit.noGoto_normal]
        go_end0
        have hl := HL2.out
        exact ⟨⟨_, rfl⟩, .inr ⟨pre ++ [i], ⟨_, by rw [hl, List.append_assoc]; rfl⟩, hJx3⟩⟩
    · have q1 : decide ((i : Int) < (s.size : Int)) = false := decide_eq_false (by omega)
      gi_wp2
      rw [Exit.noGoto_normal]
      go_end0
      have hl := HL.out
      have hnil : linesFrom s f i = [] := by cases f with | zero => rfl | succ f => rw [linesFrom, if_neg hlt]
      rw [hnil, List.append_nil] at hl
      exact ⟨⟨_, rfl⟩, .inl ⟨pre, hl.symm, hJ⟩⟩

theorem drewN_grown (W : World) (k : Nat) : W.grownBy (W.drewN k) none := ⟨rfl, rfl, rfl, Nat.le_refl _, fun _ _ _ => rfl⟩
theorem lines_stops (n : Nat) (hn : 1 ≤ n) (Bn : Nat) (s : ByteArray) (hs : s.size ≤ 1000000) (w : World) (hBn : Bn < w.heap.size) (hc : w.cell? ⟨Bn, 0, none⟩ = some (.string s)) :
    SeqStopsK Fence.wide n Try.prog 47 #[.pointer (some ⟨Bn, 0, none⟩)] (fun x : Nat => #[Value.int .i64 (clN s x : Int)]) (KeepS Bn s) (fun ys => ys = linesN s) (fun pre => pre <+: linesN s) s.size w := fun l J Jx W hW hJ _ hY h0 =>
  lines1_in n hn l Bn s hs J Jx (fun pre W k h => hJ pre W _ none h (drewN_grown W k) (fun r e => by cases e)) hY W ((hW.cell (p := ⟨Bn, 0, none⟩) hBn).trans hc) h0

/-- **octet.Lines**: the text is boxed; the function value captures the box. -/
theorem octet_Lines_calls (s : ByteArray) (w : World) :
    Calls Try.prog 26 #[.string s] w fun e w' => e = .returned (.func (.func 47) #[] #[.pointer (some ⟨w.heap.size, 0, none⟩)]) ∧ w' = w.alloc (.cells #[.string s] 9) := by
  go_enter Try.func26, Try.ntmps26
  go_wp2
  go_ret
  exact ⟨rfl, rfl⟩
end Go.Proofs.Ythghjdajohcedaa.Hand
