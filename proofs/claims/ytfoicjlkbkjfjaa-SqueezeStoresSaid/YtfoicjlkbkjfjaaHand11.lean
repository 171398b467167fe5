/- Squeeze: the spans' tables and codes, a piece's key, how far two pieces are alike; walked by hand. -/
import Derived.Test.YtfoicjlkbkjfjaaSq
import Derived.Test.YtfoicjlkbkjfjaaHand11m
import Derived.Great.BuildSlice
namespace Go.Proofs.Ytfoicjlkbkjfjaa.Hand
open Go.RowKit Go.Proofs.YtfoicjlkbkjfjaaW.PrintWords Go.Proofs.YtfoicjlkbkjfjaaW.PrintLast Go.Proofs.YtfoicjlkbkjfjaaW.PrintMore Go.Proofs.Ytfoicjlkbkjfjaa.Num Go.Proofs.Ytfoicjlkbkjfjaa.Bits
set_option linter.unusedVariables false
set_option linter.unusedSimpArgs false
def spanC (l : List (Int × Nat)) : List Value := l.flatMap (fun x => [.int .i64 x.1, .int .i64 (x.2 : Int)])
theorem spanC_get : ∀ (l : List (Int × Nat)) (i : Nat), i < l.length → (spanC l)[i * 2]? = some (.int .i64 (l.getD i (0, 0)).1) ∧ (spanC l)[i * 2 + 1]? = some (.int .i64 ((l.getD i (0, 0)).2 : Int))
  | [], i, h => absurd h (Nat.not_lt_zero _)
  | a :: l, 0, _ => ⟨rfl, rfl⟩
  | a :: l, i + 1, h => by
    have hh := spanC_get l i (by simpa using h)
    have e : ∀ j, (spanC (a :: l))[j + 2]? = (spanC l)[j]? := fun j => rfl
    rw [show (i + 1) * 2 = i * 2 + 2 by omega, show i * 2 + 2 + 1 = (i * 2 + 1) + 2 by omega, e, e, List.getD_cons_succ]
    exact hh
/-- A table of spans lies in a block. -/
structure Tab (w : World) (B : Nat) (A : Addr) (T : List (Int × Nat)) : Prop where
  low : B ≤ A.block
  at_ : ∀ i, i < T.length → w.cell? (A.add (i * 2)) = some (.int .i64 (T.getD i (0, 0)).1) ∧ w.cell? ⟨(A.add (i * 2)).block, (A.add (i * 2)).off + 1, none⟩ = some (.int .i64 ((T.getD i (0, 0)).2 : Int))
theorem infoSpanS : (Try.prog.info? 98).map (fun i => (i.size, i.zero)) = some (2, some (.agg #[.int .i64 0, .int .i64 0])) := by kernel_rfl
theorem spanS_parts : ∃ ie, Try.prog.info? 98 = some ie ∧ ie.zero = some (.agg #[.int .i64 0, .int .i64 0]) ∧ ie.size = 2 := by
  obtain ⟨ie, h1, h2⟩ := Option.map_eq_some_iff.1 infoSpanS
  simp only [Prod.mk.injEq] at h2
  exact ⟨ie, h1, h2.2, h2.1⟩
/-- A table lies in a block of its own. -/
def TabAt (w : World) (g0 : Nat) (T : List (Int × Nat)) : Prop := w.heap[g0]? = some (.cells (spanC T).toArray 98 (0, 0))
theorem TabAt.tab {w : World} {g0 : Nat} {T : List (Int × Nat)} (h : TabAt w g0 T) : Tab w g0 ⟨g0, 0, none⟩ T := by
  refine ⟨Nat.le_refl _, fun i hi => ?_⟩
  obtain ⟨h0, h1⟩ := spanC_get T i hi
  have e : ((⟨g0, 0, none⟩ : Addr).add (i * 2)) = ⟨g0, i * 2, none⟩ := by unfold Addr.add; simp; omega
  rw [e]
  exact ⟨(blk_cell h (i * 2)).trans (by simpa using h0), (blk_cell h (i * 2 + 1)).trans (by simpa using h1)⟩
set_option maxRecDepth 100000 in
set_option maxHeartbeats 4000000 in
theorem slengths_calls (w : World) : Calls Try.prog 55 #[] w fun e w' => ∃ g0, e = .returned (.slice (some ⟨g0, 0, none⟩) 29 29) ∧ TabAt w' g0 lensT ∧ w.heap.size ≤ g0 ∧ Below w.heap.size w w' := by
  obtain ⟨ie, hie, hz, hsz⟩ := spanS_parts
  go_enter Try.func55, Try.ntmps55
  obtain ⟨sv, hsv⟩ : ∃ sv : List Value, sv = spanC lensT := ⟨_, rfl⟩
  have HS := Aside0.mk hsv
  clear hsv
  go_wp2_with (refine wpList_buildSlice rfl 94 98 29 _ rfl sv.toArray ie (.agg #[.int .i64 0, .int .i64 0]) Try.underlying94 hie hz (by rw [hsz]; decide) (by rw [hsz]; decide) (by rw [hsz, HS.out]; kernel_rfl) ?_)
  go_returns
  refine ⟨_, rfl, ?_, Nat.le_refl _, below_alloc (Below.refl _ _) _⟩
  rw [HS.out]
  exact blk_new w _
set_option maxRecDepth 100000 in
set_option maxHeartbeats 4000000 in
theorem sdistances_calls (w : World) : Calls Try.prog 56 #[] w fun e w' => ∃ g0, e = .returned (.slice (some ⟨g0, 0, none⟩) 30 30) ∧ TabAt w' g0 distT ∧ w.heap.size ≤ g0 ∧ Below w.heap.size w w' := by
  obtain ⟨ie, hie, hz, hsz⟩ := spanS_parts
  go_enter Try.func56, Try.ntmps56
  obtain ⟨sv, hsv⟩ : ∃ sv : List Value, sv = spanC distT := ⟨_, rfl⟩
  have HS := Aside0.mk hsv
  clear hsv
  go_wp2_with (refine wpList_buildSlice rfl 94 98 30 _ rfl sv.toArray ie (.agg #[.int .i64 0, .int .i64 0]) Try.underlying94 hie hz (by rw [hsz]; decide) (by rw [hsz]; decide) (by rw [hsz, HS.out]; kernel_rfl) ?_)
  go_returns
  refine ⟨_, rfl, ?_, Nat.le_refl _, below_alloc (Below.refl _ _) _⟩
  rw [HS.out]
  exact blk_new w _
theorem scode_calls (w : World) (A : Addr) (T : List (Int × Nat)) (B : Nat) (n : Int) (hT : Tab w B A T) (hl : T.length ≤ 30) (c : Nat) :
    Calls Try.prog 57 #[.slice (some A) T.length c, .int .i64 n] w fun e w' => e = .returned (.int .i64 (codeF T n : Int)) ∧ w = w' := by
  have HT := Aside0.mk hT
  clear hT
  go_enter Try.func57, Try.ntmps57
  go_wp2_with fail
  go_loopw [5] (fun v5 wr => ∃ k : Nat, v5 = .int .i64 (k : Int) ∧ k ≤ 30 ∧ Aside0 (codeF T n = k + codeG (T.drop (k + 1)) n) ∧ w = wr) (fun v5 _ => (40 - intOf v5).toNat)
  case atStart => exact ⟨0, rfl, by omega, ⟨by rw [Nat.zero_add]; rfl⟩, rfl⟩
  case round =>
    obtain ⟨k, rfl, hk, HC, rfl⟩ := hrel
    by_cases hlt : k + 1 < T.length
    · have q1 : decide ((k : Int) + 1 < (T.length : Int)) = true := decide_eq_true (by omega)
      have hcell := (HT.out.at_ (k + 1) hlt).1
      have HS := Aside0.mk (codeG_step T n k hlt)
      obtain ⟨y, hy⟩ : ∃ y, y = (T.getD (k + 1) (0, 0)).1 := ⟨_, rfl⟩
      rw [← hy] at hcell HS
      clear hy
      by_cases hle : y ≤ n
      · have q2 : decide (y ≤ n) = true := decide_eq_true hle
        go_wp2_with fail
        go_roundw
        case rel => exact ⟨k + 1, by go_num, by omega, ⟨by rw [HC.out, HS.out, if_pos hle]; show _ = _ + codeG (List.drop (k + 2) T) n; omega⟩, trivial⟩
        case measure => simp [intOf]; omega
      · have q2 : decide (y ≤ n) = false := decide_eq_false hle
        go_wp2_with fail
        go_returns
        rw [HC.out, HS.out, if_neg (by omega)]
        exact ⟨rfl, rfl⟩
    · have q1 : decide ((k : Int) + 1 < (T.length : Int)) = false := decide_eq_false (by omega)
      go_wp2_with fail
      go_returns
      have := HC.out
      rw [List.drop_of_length_le (by omega), codeG] at this
      rw [this]
      exact ⟨rfl, rfl⟩
def lastP (s : ByteArray) : Nat → Int → Int
  | 0, _ => -1
  | d + 1, k => if d + 3 ≤ s.size ∧ key3 s d = k then (d : Int) else lastP s d k
def nxt (s : ByteArray) (i : Nat) : Int := if i + 3 ≤ s.size then lastP s i (key3 s i) else -1
theorem key_or (a b c : Int) (ha : 0 ≤ a ∧ a < 256) (hb : 0 ≤ b ∧ b < 256) (hc : 0 ≤ c ∧ c < 256) : bits .or .i64 (bits .or .i64 (a * 65536) (b * 256)) c = a * 65536 + b * 256 + c := by
  have h1 : bits .or .i64 (a * 65536) (b * 256) = a * 65536 + b * 256 := by
    have := bits_join .i64 62 (by decide) (fun n h0 h1 => IntWalk.i64_in _ (by omega)) 16 (a * 65536) (b * 256) (by omega) (by omega) (by omega) (by omega) (by omega) (by omega)
    omega
  rw [h1]
  have := bits_join .i64 62 (by decide) (fun n h0 h1 => IntWalk.i64_in _ (by omega)) 8 (a * 65536 + b * 256) c (by omega) (by omega) (by omega) (by omega) (by omega) (by omega)
  omega
set_option maxHeartbeats 1000000 in
theorem fkey_calls (w : World) (x : Nat) (s : ByteArray) (m v dd : Value) (i : Nat) (hb : w.heap[x]? = some (.cells #[.string s, m, v, dd] 51 (0, 0))) (hi : i + 3 ≤ s.size) (hs : s.size ≤ 1000000) :
    Calls Try.prog 53 #[.pointer (some ⟨x, 0, none⟩), .int .i64 (i : Int)] w fun e w' => e = .returned (.int .i64 (key3 s i)) ∧ Drawn0 w w' := by
  have c0 : w.cell? ⟨x, 0, none⟩ = some (.string s) := (blk_cell hb 0).trans (by simp)
  have e1 : ((i + 1 : Nat) : Int) = (i : Int) + 1 := by omega
  have e2 : ((i + 2 : Nat) : Int) = (i : Int) + 2 := by omega
  have hq := key_or (bt s i) (bt s ((i + 1 : Nat) : Int)) (bt s ((i + 2 : Nat) : Int)) (bt_byte _ _) (bt_byte _ _) (bt_byte _ _)
  have hk3 : key3 s i = bt s (i : Int) * 65536 + bt s ((i : Int) + 1) * 256 + bt s ((i : Int) + 2) := by unfold key3; rw [e1, e2]
  rw [e1, e2, ← hk3] at hq
  clear hk3
  have b0 := bt_byte s i
  have b1 := bt_byte s ((i : Int) + 1)
  have b2 := bt_byte s ((i : Int) + 2)
  have a0 : i < s.size := by omega
  have a1 : i + 1 < s.size := by omega
  have a2 : i + 2 < s.size := by omega
  have n0 : (s[i].toNat : Int) = bt s (i : Int) := (bt_nat s i a0).symm
  have n1 : (s[i + 1].toNat : Int) = bt s ((i : Int) + 1) := (bt_nat s (i + 1) a1).symm
  have a3 : ((i : Int) + 2).toNat < s.size := by omega
  have n2 : ((s[((i : Int) + 2).toNat]'a3).toNat : Int) = bt s ((i : Int) + 2) := bt_at s _ a3
  generalize bt s (i : Int) = y0 at *
  generalize bt s ((i : Int) + 1) = y1 at *
  generalize bt s ((i : Int) + 2) = y2 at *
  have HQ := Aside0.mk hq
  clear hb hq
  go_enter Try.func53, Try.ntmps53
  go_wp2
  go_quiet (fail)
  go_wp2
  go_returns
  rw [HQ.out]
  exact ⟨rfl, ⟨⟨_, rfl⟩⟩⟩
theorem falike_calls (w : World) (x : Nat) (s : ByteArray) (m v dd : Value) (j at_ : Nat) (hb : w.heap[x]? = some (.cells #[.string s, m, v, dd] 51 (0, 0))) (hj : j ≤ at_) (hat : at_ ≤ s.size) (hs : s.size ≤ 1000000) :
    Calls Try.prog 54 #[.pointer (some ⟨x, 0, none⟩), .int .i64 (j : Int), .int .i64 (at_ : Int)] w fun e w' => e = .returned (.int .i64 (alk s 258 j at_ : Nat)) ∧ Drawn0 w w' := by
  have c0 : w.cell? ⟨x, 0, none⟩ = some (.string s) := (blk_cell hb 0).trans (by simp)
  have hR : ∀ k, k < 258 → alk s (258 - k) (j + k) (at_ + k) = if at_ + k < s.size ∧ bt s ((at_ + k : Nat) : Int) = bt s ((j + k : Nat) : Int) then alk s (258 - (k + 1)) (j + (k + 1)) (at_ + (k + 1)) + 1 else 0 := fun k hk => by
    rw [show 258 - k = (258 - (k + 1)) + 1 by omega, alk]; rfl
  have HR := Aside0.mk hR
  have HC := Aside0.mk c0
  clear hb hR c0
  go_enter Try.func54, Try.ntmps54
  go_wp2_with fail
  go_loopw [7] (fun v7 wr => ∃ n : Nat, v7 = .int .i64 (n : Int) ∧ n ≤ 258 ∧ at_ + n ≤ s.size ∧ Aside0 (alk s 258 j at_ = n + alk s (258 - n) (j + n) (at_ + n) ∧ Drawn0 w wr)) (fun v7 _ => (1000 - intOf v7).toNat)
  case atStart => exact ⟨0, rfl, by omega, by omega, ⟨by simp, Drawn0.refl _⟩⟩
  case round =>
    obtain ⟨n, rfl, hn, hsz, HW⟩ := hrel
    obtain ⟨⟨nd, rfl⟩⟩ := HW.out.2
    have c0 := HC.out
    by_cases h1 : n < 258
    · have q1 : decide ((n : Int) < 258) = true := decide_eq_true (by omega)
      have hr := HR.out n h1
      by_cases h2 : at_ + n < s.size
      · have q2 : decide ((at_ : Int) + (n : Int) < (s.size : Int)) = true := decide_eq_true (by omega)
        have q2n : decide (at_ + n < s.size) = true := decide_eq_true h2
        have w1 : IntKind.i64.wrap ((at_ : Int) + (n : Int)) = (at_ : Int) + (n : Int) := IntWalk.i64_in _ (by omega)
        have w2 : IntKind.i64.wrap ((j : Int) + (n : Int)) = (j : Int) + (n : Int) := IntWalk.i64_in _ (by omega)
        have e1 : ((at_ + n : Nat) : Int) = (at_ : Int) + (n : Int) := by omega
        have e2 : ((j + n : Nat) : Int) = (j : Int) + (n : Int) := by omega
        have a1 : at_ + n < s.size := h2
        have a2 : j + n < s.size := by omega
        have z1 : 0 ≤ (at_ : Int) + (n : Int) ∧ (at_ : Int) + (n : Int) < (s.size : Int) := by omega
        have z2 : 0 ≤ (j : Int) + (n : Int) ∧ (j : Int) + (n : Int) < (s.size : Int) := by omega
        have z3 : ((at_ : Int) + (n : Int)).toNat = at_ + n := by omega
        have z4 : ((j : Int) + (n : Int)).toNat = j + n := by omega
        have n1 : (s[at_ + n].toNat : Int) = bt s ((at_ : Int) + (n : Int)) := by rw [← e1]; exact (bt_nat s (at_ + n) a1).symm
        have n2 : (s[j + n].toNat : Int) = bt s ((j : Int) + (n : Int)) := by rw [← e2]; exact (bt_nat s (j + n) a2).symm
        rw [e1, e2] at hr
        clear e1 e2
        generalize bt s ((at_ : Int) + (n : Int)) = y at *
        generalize bt s ((j : Int) + (n : Int)) = z at *
        by_cases h3 : y = z
        · have q3 : (y == z) = true := beq_iff_eq.2 h3
          rw [if_pos ⟨h2, h3⟩] at hr
          have HH := Aside0.mk hr
          clear hr h3 HR
          go_wp2_with fail
          go_quiet (fail)
          go_wp2_with fail
          go_roundw
          case rel => exact ⟨n + 1, by go_num, by omega, by omega, ⟨by rw [HW.out.1, HH.out]; omega, ⟨⟨nd + nq, rfl⟩⟩⟩⟩
          case measure => simp [intOf]; omega
        · have q3 : (y == z) = false := beq_eq_false_iff_ne.2 h3
          rw [if_neg (fun h => h3 h.2)] at hr
          have HH := Aside0.mk hr
          clear hr h3 HR
          go_wp2_with fail
          go_quiet (fail)
          go_wp2_with fail
          go_returns
          rw [HW.out.1, HH.out]
          exact ⟨rfl, ⟨⟨nd + nq, World.drewN_drewN _ _ _⟩⟩⟩
      · have q2 : decide ((at_ : Int) + (n : Int) < (s.size : Int)) = false := decide_eq_false (by omega)
        rw [if_neg (fun h => h2 h.1)] at hr
        have HH := Aside0.mk hr
        clear hr HR
        go_wp2_with fail
        go_quiet (fail)
        go_wp2_with fail
        go_returns
        rw [HW.out.1, HH.out]
        exact ⟨rfl, ⟨⟨nd + nq, World.drewN_drewN _ _ _⟩⟩⟩
    · have q1 : decide ((n : Int) < 258) = false := decide_eq_false (by omega)
      obtain rfl : n = 258 := by omega
      go_wp2_with fail
      go_quiet (fail)
      go_wp2_with fail
      go_returns
      rw [HW.out.1]
      exact ⟨rfl, ⟨⟨nd + nq, World.drewN_drewN _ _ _⟩⟩⟩
end Go.Proofs.Ytfoicjlkbkjfjaa.Hand
