/- coat.Check: which filters may be; walked by hand. -/
import Derived.Test.YtghoifkaikddlaaGreatHand14
namespace Go.Proofs.YtghoifkaikddlaaGreat.Hand
open Go.RowKit Go.Proofs.YtghoifkaikddlaaGreatW.PrintWords Go.Proofs.YtghoifkaikddlaaGreatW.PrintLast Go.Proofs.YtghoifkaikddlaaGreat.Num
set_option linter.unusedVariables false
set_option linter.unusedSimpArgs false
/-- A slice of strings that is read. -/
def Strs (w : World) (A : Option Addr) (l : List ByteArray) : Prop := ∀ i, i < l.length → ∃ ad, A = some ad ∧ w.cell? (ad.add i) = some (.string (l.getD i ⟨#[]⟩))
theorem Strs.below {w w1 : World} {A : Option Addr} {l : List ByteArray} (h : Strs w A l) (hb : Below w.heap.size w w1) : Strs w1 A l := fun i hi => by
  obtain ⟨ad, h1, h2⟩ := h i hi
  exact ⟨ad, h1, (hb.cell (World.block_lt_of_cell? w _ h2)).trans h2⟩
/-- Which filters may be. -/
def chkF (l : List ByteArray) (c : Int) : Int :=
  if c < 0 ∨ 256 < c then 2 else if 4 < l.length then 16 else if ∃ i, i < l.length ∧ kn (l.getD i ⟨#[]⟩) = 0 then 16 else if 0 < c ∧ kn (l.getD (l.length - 1) ⟨#[]⟩) ≠ 3 then 16 else 0
theorem fcells_size (k : Nat) (n : Int) : (fcells k n).size = 3 := by
  unfold fcells
  split <;> rfl
theorem fcells_one (k : Nat) (n : Int) : (fcells k n).all (·.oneCell') = true := by
  unfold fcells
  split <;> simp [Value.oneCell']
theorem filtInfo' (k : Nat) (n : Int) : (Tryz.prog.info? 51).map (·.size) = some (fcells k n).size := by rw [fcells_size]; exact filtInfo
theorem below_box {w W : World} (h : Below w.heap.size w W) (o : Obj) (cs : Array Value) : Below w.heap.size w ((W.alloc o).setRow W.heap.size cs) :=
  (below_alloc h o).trans ((fr_row14 _ W.heap.size cs).below (by rintro k rfl; exact h.size) (below_alloc h o).size)
theorem kn_defl : kn deflN = 3 := by decide
theorem ne_defl {nm : ByteArray} (h3 : ¬ kn nm = 3) : deflN ≠ nm := fun h => h3 (by rw [← h]; exact kn_defl)
theorem neq_t {a b : ByteArray} (l : List UInt8) (hl : a.data.toList = l) (h : a = b) : (b.toList == l) = true := by
  subst h
  rw [ByteArray.toList_eq, hl, beq_self_eq_true]
theorem neq_f {a b : ByteArray} (l : List UInt8) (hl : a.data.toList = l) (h : a ≠ b) : (b.toList == l) = false := by
  rw [Bool.eq_false_iff]
  intro e
  have e2 := beq_iff_eq.1 e
  rw [ByteArray.toList_eq, ← hl] at e2
  exact h (ByteArray.ext (Array.toList_inj.1 e2.symm))
set_option maxRecDepth 100000 in
set_option maxHeartbeats 8000000 in
theorem check_calls (A : Option Addr) (n cap : Nat) (l : List ByteArray) (c : Int) (w : World) (hn : n = l.length) (hl : Strs w A l) :
    Calls Tryz.prog 19 #[.slice A n cap, .int .i64 c] w fun e w' => e = .returned (.int .i64 (chkF l c)) ∧ Below w.heap.size w w' := by
  have HN := Aside0.mk hn
  by_cases hc0 : c < 0
  · have q0 : decide (c < (0 : Int)) = true := decide_eq_true hc0
    have hr : chkF l c = 2 := by unfold chkF; rw [if_pos (.inl hc0)]
    rw [hr]
    clear hn
    go_enter Tryz.func19, Tryz.ntmps19
    go_wp2
    go_ret
    exact ⟨rfl, Below.refl _ _⟩
  have q0 : decide (c < (0 : Int)) = false := decide_eq_false hc0
  by_cases hc1 : 256 < c
  · have q1 : decide ((256 : Int) < c) = true := decide_eq_true hc1
    have hr : chkF l c = 2 := by unfold chkF; rw [if_pos (.inr hc1)]
    rw [hr]
    clear hn
    go_enter Tryz.func19, Tryz.ntmps19
    go_wp2
    go_ret
    exact ⟨rfl, Below.refl _ _⟩
  have q1 : decide ((256 : Int) < c) = false := decide_eq_false hc1
  by_cases h4 : 4 < n
  · have q2 : decide ((4 : Int) < (n : Int)) = true := decide_eq_true (by omega)
    have hr : chkF l c = 16 := by unfold chkF; rw [if_neg (by omega), if_pos (by omega)]
    rw [hr]
    clear hn
    go_enter Tryz.func19, Tryz.ntmps19
    go_wp2
    go_ret
    exact ⟨rfl, Below.refl _ _⟩
  have q2 : decide ((4 : Int) < (n : Int)) = false := decide_eq_false (by omega)
  have hr0 : chkF l c = if ∃ i, i < l.length ∧ kn (l.getD i ⟨#[]⟩) = 0 then 16 else if 0 < c ∧ kn (l.getD (l.length - 1) ⟨#[]⟩) ≠ 3 then 16 else 0 := by unfold chkF; rw [if_neg (by omega), if_neg (by omega)]
  obtain ⟨r, hr⟩ : ∃ r, r = chkF l c := ⟨_, rfl⟩
  rw [← hr] at hr0 ⊢
  have HR := Aside0.mk hr0
  clear hr hr0 hn
  go_enter Tryz.func19, Tryz.ntmps19
  go_wp2_with fail
  go_loopw [22] (fun v22 wr => ∃ i : Nat, i ≤ n ∧ v22 = .int .i64 (i : Int) ∧ Aside0 (∀ j, j < i → kn (l.getD j ⟨#[]⟩) ≠ 0) ∧ Aside0 (Below w.heap.size w wr)) (fun v22 _ => n - (intOf v22).toNat)
  case atStart => exact ⟨0, Nat.zero_le _, rfl, ⟨fun j hj => absurd hj (Nat.not_lt_zero j)⟩, ⟨Below.refl _ _⟩⟩
  case round =>
    obtain ⟨i, hi, rfl, HK, HB⟩ := hrel
    by_cases hlt : i < n
    · have r1 : decide ((i : Int) < (n : Int)) = true := decide_eq_true (by omega)
      obtain ⟨ad, rfl, hc⟩ := (hl.below HB.out) i (by have := HN.out; omega)
      obtain ⟨nm, hnm⟩ : ∃ nm, nm = l.getD i ⟨#[]⟩ := ⟨_, rfl⟩
      rw [← hnm] at hc
      have HNM := Aside0.mk hnm
      have KF := Aside0.mk (fun W => find_calls nm 0 W)
      clear hnm
      obtain ⟨k, hk⟩ : ∃ k, k = kn nm := ⟨_, rfl⟩
      rw [← hk] at KF
      have HKK := Aside0.mk hk
      clear hk
      by_cases h0 : k = 0
      · have t0 : decide (k ≠ 0) = false := decide_eq_false (by omega)
        rw [t0] at KF
        have hr := HR.out
        rw [if_pos ⟨i, by have := HN.out; omega, by rw [← HNM.out, ← HKK.out]; exact h0⟩] at hr
        subst hr
        clear HR h0 t0
        go_wp2_with (first | (go_at_call 26; (with_reducible refine (KF.out _).mono ?_); rintro e w1 ⟨rfl, hb1⟩; have tb0 := heap_alloc_new w1 (.cells #[.string ⟨#[]⟩, .nilFunc, .nilFunc] 51)) | (refine wpList_store_rowTo rfl 51 _ _ rfl rfl w1.heap.size (fcells k 0) rfl rfl 51 _ tb0 (filtInfo' _ _) (by rw [fcells_size]; rfl) (fcells_one _ _) ?_))
        repeat (rw [Exit.noGoto_ret])
        show bodyPost _ _ _ _ _ _
        go_ret
        exact ⟨rfl, below_box (HB.out.trans (hb1.mono HB.out.size)) _ _⟩
      · have t0 : decide (k ≠ 0) = true := decide_eq_true (by omega)
        rw [t0] at KF
        have HK0 := Aside0.mk h0
        clear h0 t0
        go_wp2_with (first | (go_at_call 26; (with_reducible refine (KF.out _).mono ?_); rintro e w1 ⟨rfl, hb1⟩; have tb0 := heap_alloc_new w1 (.cells #[.string ⟨#[]⟩, .nilFunc, .nilFunc] 51)) | (refine wpList_store_rowTo rfl 51 _ _ rfl rfl w1.heap.size (fcells k 0) rfl rfl 51 _ tb0 (filtInfo' _ _) (by rw [fcells_size]; rfl) (fcells_one _ _) ?_))
        go_roundw
        case rel => exact ⟨i + 1, by omega, by go_num, ⟨fun j hj => by
          rcases Nat.lt_or_ge j i with h | h
          · exact HK.out j h
          · obtain rfl : j = i := by omega
            rw [← HNM.out, ← HKK.out]; exact HK0.out⟩, ⟨below_box (HB.out.trans (hb1.mono HB.out.size)) _ _⟩⟩
        case measure => simp [intOf]; omega
    · have r1 : decide ((i : Int) < (n : Int)) = false := decide_eq_false (by omega)
      obtain rfl : i = n := by omega
      have hr := HR.out
      rw [if_neg (by rintro ⟨j, h1, h2⟩; exact HK.out j (by have := HN.out; omega) h2)] at hr
      clear HR HK hlt hi
      by_cases hc2 : 0 < c
      · have q3 : decide ((0 : Int) < c) = true := decide_eq_true hc2
        by_cases hi0 : i = 0
        · subst hi0
          rw [if_pos ⟨hc2, by rw [List.length_eq_zero_iff.1 HN.out.symm]; decide⟩] at hr
          subst hr
          go_wp2_with fail
          go_ret
          exact ⟨rfl, HB.out⟩
        · obtain ⟨m, hm⟩ : ∃ m, i = m + 1 := ⟨i - 1, by omega⟩
          have e1 : (i : Int) - 1 = (m : Int) := by omega
          have e2 : ((i : Int) == 0) = false := beq_false_of_ne (by omega)
          have e3 : (i == 0) = false := beq_false_of_ne hi0
          have hlm : m < i := by omega
          have hlm1 : m < l.length := by have := HN.out; omega
          rw [show l.length - 1 = m by have := HN.out; omega] at hr
          obtain ⟨ad, rfl, hcl⟩ := (hl.below HB.out) m hlm1
          have hcl' := (hl.below HB.out) m hlm1
          obtain ⟨nm, hnm⟩ : ∃ nm, nm = l.getD m ⟨#[]⟩ := ⟨_, rfl⟩
          rw [← hnm] at hr hcl
          clear hnm hm hcl'
          by_cases h3 : kn nm = 3
          · rw [if_neg (fun h => h.2 h3)] at hr
            have tq : (nm.toList == ([70, 108, 97, 116, 101, 68, 101, 99, 111, 100, 101] : List UInt8)) = true := neq_t _ rfl (kn_3 h3).symm
            subst hr
            clear h3
            go_wp2_with fail
            go_ret
            exact ⟨rfl, HB.out⟩
          · rw [if_pos ⟨hc2, h3⟩] at hr
            have tq : (nm.toList == ([70, 108, 97, 116, 101, 68, 101, 99, 111, 100, 101] : List UInt8)) = false := neq_f _ rfl (ne_defl h3)
            subst hr
            clear h3
            go_wp2_with fail
            go_ret
            exact ⟨rfl, HB.out⟩
      · have q3 : decide ((0 : Int) < c) = false := decide_eq_false hc2
        rw [if_neg (fun h => hc2 h.1)] at hr
        subst hr
        go_wp2_with fail
        go_ret
        exact ⟨rfl, HB.out⟩
theorem chk_len {l : List ByteArray} {c : Int} (h : chkF l c = 0) : l.length ≤ 4 ∧ ∀ i, i < l.length → kn (l.getD i ⟨#[]⟩) ≠ 0 := by
  unfold chkF at h
  split at h
  · omega
  split at h
  · omega
  split at h
  · omega
  · rename_i _ h1 h2
    exact ⟨by omega, fun i hi h0 => h2 ⟨i, hi, h0⟩⟩
theorem drop_getD {l : List ByteArray} {m : Nat} (h : m < l.length) : l.drop m = l.getD m ⟨#[]⟩ :: l.drop (m + 1) := by
  rw [List.drop_eq_getElem_cons h, List.getD_eq_getElem?_getD, List.getElem?_eq_getElem h]
  rfl
end Go.Proofs.YtghoifkaikddlaaGreat.Hand
