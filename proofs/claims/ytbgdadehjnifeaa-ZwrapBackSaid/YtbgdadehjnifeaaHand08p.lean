/- Layer 8: what the document's own functions tell, and the reader's contract at any question. The document's own Put of layer 8: it may hand its row back, so it is walked by hand. -/
import Derived.Test.YtbgdadehjnifeaaHand08w
import Derived.Test.YtbgdadehjnifeaaP08x1
namespace Go.Proofs.Ytbgdadehjnifeaa.Hand
open Go.RowKit Go.Proofs.YtbgdadehjnifeaaW.PrintWords Go.Proofs.YtbgdadehjnifeaaW.PrintLast Go.Proofs.Ytbgdadehjnifeaa.Num Go.Proofs.Ytbgdadehjnifeaa.Bits Go.Proofs.Ytbgdadehjnifeaa.P08
set_option linter.unusedVariables false

theorem ev_step {α : Type} {g f : Nat → Option α} {r : α} (h : Ev f r) (hs : ∀ k, g (k + 1) = f k) : Ev g r := by
  obtain ⟨K, h⟩ := h
  exact ⟨K + 1, fun k hk => by
    obtain ⟨k, rfl⟩ : ∃ m, k = m + 1 := ⟨k - 1, by omega⟩
    rw [hs k]
    exact h k (by omega)⟩
theorem ev_now {α : Type} {g : Nat → Option α} {r : α} (hs : ∀ k, g (k + 1) = some r) : Ev g r := ⟨1, fun k hk => by
  obtain ⟨k, rfl⟩ : ∃ m, k = m + 1 := ⟨k - 1, by omega⟩
  exact hs k⟩
theorem power_l (n : Nat) (hn : n ≤ 60) : ∀ (d i : Nat), i + d = n → ∀ k, d < k → binderyref08_power.l0 k n (2 ^ i) i = some (2 ^ n)
  | 0, i, hd, k, hk => by
    obtain ⟨k, rfl⟩ : ∃ m, k = m + 1 := ⟨k - 1, by omega⟩
    simp only [binderyref08_power.l0]
    rw [if_neg (by omega), show i = n by omega]
  | d + 1, i, hd, k, hk => by
    obtain ⟨k, rfl⟩ : ∃ m, k = m + 1 := ⟨k - 1, by omega⟩
    have hp := pow_le (show i ≤ 60 by omega)
    have hp0 := pow_pos' i
    simp only [binderyref08_power.l0]
    rw [if_pos (by omega), w64 (by omega) (by omega), w64 (by omega) (by omega), show (i : Int) + 1 = ((i + 1 : Nat) : Int) by omega, show (2 : Int) * 2 ^ i = 2 ^ (i + 1) by rw [Int.pow_succ, Int.mul_comm]]
    exact power_l n hn d (i + 1) (by omega) k (by omega)
theorem power_f (n : Nat) (hn : n ≤ 60) (k : Nat) (hk : n < k) : binderyref08_power.f k n = some (2 ^ n) := power_l n hn n 0 (by omega) k hk
end Go.Proofs.Ytbgdadehjnifeaa.Hand
namespace Go.Proofs.Ytbgdadehjnifeaa.Hand
open Go.RowKit Go.Proofs.YtbgdadehjnifeaaW.PrintWords Go.Proofs.YtbgdadehjnifeaaW.PrintLast Go.Proofs.YtbgdadehjnifeaaW.PrintMore Go.Proofs.Ytbgdadehjnifeaa.Num Go.Proofs.Ytbgdadehjnifeaa.Bits Go.Proofs.Ytbgdadehjnifeaa.P08
set_option linter.unusedVariables false
set_option linter.unusedSimpArgs false

theorem infoI64 : (Try.prog.info? 3).map (fun i => (i.zero, i.size, i.bytes)) = some (some (.int .i64 0), 1, 8) := by kernel_rfl
theorem refput_arg (w : World) (A : Option Addr) (m c : Nat) (n k : Int) (hk : k < 0 ∨ 16 < k) :
    Calls Try.prog 74 #[.slice A m c, .int .i64 n, .int .i64 k] w fun e w' => e = .returned (.tuple #[.slice A m c, .int .i64 2]) ∧ w = w' := by
  by_cases h0 : k < 0
  · have q1 : decide (k < 0) = true := decide_eq_true h0
    go_enter Try.func74, Try.ntmps74
    go_wp2
    go_returns
    exact ⟨rfl, rfl⟩
  · have q1 : decide (k < 0) = false := decide_eq_false h0
    have q2 : decide (16 < k) = true := decide_eq_true (by omega)
    go_enter Try.func74, Try.ntmps74
    go_wp2
    go_returns
    exact ⟨rfl, rfl⟩
theorem power_calls (k : Nat) (hk : k ≤ 16) (w : World) : Calls Try.prog 88 #[.int .i64 (k : Int)] w fun e w' => e = .returned (.int .i64 (2 ^ k)) ∧ Drawn0 w w' :=
  binderyref08_power.calls (k + 1) k (2 ^ k) w (power_f k (by omega) _ (by omega))
theorem refput_range (w : World) (A : Option Addr) (m c : Nat) (n : Int) (k : Nat) (hk : k ≤ 16) (hn : n < 0 ∨ 2 ^ k ≤ n) :
    Calls Try.prog 74 #[.slice A m c, .int .i64 n, .int .i64 (k : Int)] w fun e w' => e = .returned (.tuple #[.slice A m c, .int .i64 3]) ∧ Drawn0 w w' := by
  have q1 : decide ((k : Int) < 0) = false := decide_eq_false (by omega)
  have q2 : decide (16 < (k : Int)) = false := decide_eq_false (by omega)
  have HP := Aside0.mk (power_calls k hk)
  obtain ⟨y, hy⟩ : ∃ y : Int, y = 2 ^ k := ⟨_, rfl⟩
  rw [← hy] at HP hn
  clear hy
  by_cases h0 : n < 0
  · have q3 : decide (n < 0) = true := decide_eq_true h0
    go_enter Try.func74, Try.ntmps74
    go_wp2
    go_returns
    exact ⟨rfl, ⟨0, rfl⟩⟩
  · have q3 : decide (n < 0) = false := decide_eq_false h0
    have q4 : decide (y ≤ n) = true := decide_eq_true (by omega)
    go_enter Try.func74, Try.ntmps74
    go_wp2_with (go_at_call 88; (with_reducible refine (HP.out _).mono ?_); rintro e w1 ⟨rfl, ⟨nd, rfl⟩⟩)
    go_returns
    exact ⟨rfl, ⟨_, rfl⟩⟩
set_option maxRecDepth 100000 in
set_option maxHeartbeats 2000000 in
theorem refput_ok (w : World) (A : Option Addr) (c : Nat) (L : List Int) (n : Int) (k : Nat) (hr : Kd.C (Kd.int .i64) w A L.length L) (hc : L.length ≤ c) (hk : k ≤ 16) (hn0 : 0 ≤ n) (hn : n < 2 ^ k) (hL : L.length ≤ 10000000) :
    Calls Try.prog 74 #[.slice A L.length c, .int .i64 n, .int .i64 (k : Int)] w fun e w' => ∃ v, e = .returned (.tuple #[v, .int .i64 0]) ∧ Row w' w.heap.size 3 .i64 v (L ++ bitsN n k) ∧ Below w.heap.size w w' := by
  have q1 : decide ((k : Int) < 0) = false := decide_eq_false (by omega)
  have q2 : decide (16 < (k : Int)) = false := decide_eq_false (by omega)
  have HP := Aside0.mk (power_calls k hk)
  obtain ⟨y, hy⟩ : ∃ y : Int, y = 2 ^ k := ⟨_, rfl⟩
  rw [← hy] at HP hn
  have hp16 := pow_le hk
  rw [← hy] at hp16
  have hn16 : n < 65536 := by omega
  have q3 : decide (n < 0) = false := decide_eq_false (by omega)
  have q4 : decide (y ≤ n) = false := decide_eq_false (by omega)
  have HR := Aside0.mk hr
  have HC := Aside0.mk hc
  clear hy hn hp16 hr hc
  go_enter Try.func74, Try.ntmps74
  go_wp2_with (first | (go_at_call 88; (with_reducible refine (HP.out _).mono ?_); rintro e w1 ⟨rfl, ⟨nd, rfl⟩⟩) | (at_builtin; refine Kd.R_append_rows (Kd.int .i64) (w0 := w) w.heap.size rfl _ _ 64 3 (.int .i64 0) 8 rfl Try.underlying64 infoI64 rfl (by decide) (by omega) (.slice (some ⟨w.heap.size, 0, none⟩) 0 0) [] L _ _ _ (fun _ => True) (fun _ => False) rfl rfl ?aO ?aR (fun _ _ h => h) (fun _ h => h.elim) ?aF ?aB ?aS ?aL ?_))
  case aO => exact Kd.R_of_own (Row.empty (w.drewN nd) w.heap.size 3 .i64 (Nat.le_refl _)) (fun _ _ => trivial)
  case aR => exact Kd.C_below HR.out (below_alloc (pw_below_drewN (Below.refl _ _) nd) _)
  case aF => exact fun _ _ => trivial
  case aB => exact below_alloc (pw_below_drewN (Below.refl _ _) nd) _
  case aS => simp
  case aL => simp; omega
  intro v2 w2 hr2 hb2 _ _
  have HR2 : Aside0 (Row w2 w.heap.size 3 .i64 v2 L ∧ Below w.heap.size w w2) := ⟨Kd.own_of_R hr2, hb2⟩
  clear hr2 hb2 HR HC
  go_wp2
  go_loopw [1, 8, 9] (fun v1 v8 v9 wr => ∃ (v : Value) (i : Nat) (q : Int) (xs : List Int), v = v8 ∧ i ≤ k ∧ 0 ≤ q ∧ q < 65536 ∧ v1 = .int .i64 q ∧ v9 = .int .i64 i ∧ xs.length ≤ 10000000 + i ∧ Aside0 (xs ++ bitsN q (k - i) = L ++ bitsN n k) ∧ Aside0 (Row wr w.heap.size 3 .i64 v xs ∧ Below w.heap.size w wr)) (fun _ _ v9 _ => k - (intOf v9).toNat)
  case atStart => exact ⟨v2, 0, n, L, rfl, by omega, hn0, hn16, rfl, rfl, by omega, ⟨rfl⟩, HR2⟩
  case round =>
    clear HR2
    obtain ⟨v, i, q, xs, rfl, hi, hq0, hq1, rfl, rfl, hxl, HX, HR⟩ := hrel
    by_cases hlt : i < k
    · have q5 : decide ((i : Int) < (k : Int)) = true := decide_eq_true (by omega)
      have q5n : decide (i < k) = true := decide_eq_true hlt
      have hBw := HR.out.2.size
      go_wp2_with (at_builtin; refine app_wp w.heap.size rfl _ _ 64 3 .i64 8 rfl Try.underlying64 infoI64 v xs [q % 2] ?a0 ⟨wr.heap.size, 0, none⟩ 1 1 ?a1 ?a2 ?a3 ?a4 ?a5 ?a6 ?a7 ?_)
      try case a0 => rfl
      try case a1 => rfl
      try case a2 => rfl
      case a3 => first | exact news_lit wr .i64 [q % 2] _ _ (by rfl) | exact fun j u h => h
      case a4 => exact HR.out.1.alloc _
      case a5 => first | omega | (simp; omega)
      case a6 => unfold maxLen; omega
      case a7 => omega
      intro v3 w3 hap
      have HR3 : Aside0 (Row w3 w.heap.size 3 .i64 v3 (xs ++ [q % 2]) ∧ Below w.heap.size w w3) := ⟨hap.row, HR.out.2.trans (hap.below1 HR.out.1 hBw)⟩
      clear hap HR
      go_wp2
      go_roundw
      case rel => exact ⟨v3, i + 1, q / 2, xs ++ [q % 2], rfl, by omega, by omega, by omega, rfl, by go_num, by rw [List.length_append, List.length_singleton]; omega, ⟨by rw [← HX.out, List.append_assoc, show k - i = (k - (i + 1)) + 1 by omega, bitsN]; rfl⟩, HR3⟩
      case measure => simp [intOf]; omega
    · have hik : i = k := by omega
      subst hik
      have q5 : decide ((i : Int) < (i : Int)) = false := decide_eq_false (by omega)
      go_wp2
      go_returns
      have hx := HX.out
      rw [Nat.sub_self, bitsN, List.append_nil] at hx
      rw [← hx]
      exact ⟨_, rfl, HR.out.1, HR.out.2⟩

/-- What stands behind an act: the document's answer, and the writer's. -/
def putE (n k : Int) : Int := if k < 0 ∨ 16 < k then 2 else if n < 0 ∨ 2 ^ k.toNat ≤ n then 3 else 0
def putL (L : List Int) (n k : Int) : List Int := if putE n k = 0 then L ++ bitsN n k.toNat else L
theorem putL_length (L : List Int) (n k : Int) : (putL L n k).length ≤ L.length + 16 := by
  unfold putL
  split
  · rename_i h
    rw [List.length_append, bitsN_length]
    unfold putE at h
    split at h
    · cases h
    · omega
  · omega
theorem Row.kdC {W : World} {B : Nat} {xs : List Int} {A : Option Addr} {n c : Nat} (h : Row W B 3 .i64 (.slice A n c) xs) : n = xs.length ∧ xs.length ≤ c ∧ Kd.C (Kd.int .i64) W A xs.length xs := by
  have h2 := Kd.R_reads' (d := Kd.int .i64) (Kd.R_of_own (ok := fun _ => True) h (fun _ _ => trivial))
  exact ⟨h2.1, by have := h2.2.1; omega, h2.2.2⟩
theorem refput_any (w : World) (B : Nat) (A : Option Addr) (c : Nat) (L : List Int) (n k : Int) (hr : Row w B 3 .i64 (.slice A L.length c) L) (hB : B ≤ w.heap.size) (hL : L.length ≤ 10000000) :
    Calls Try.prog 74 #[.slice A L.length c, .int .i64 n, .int .i64 k] w fun e w' => ∃ A' c', e = .returned (.tuple #[.slice A' (putL L n k).length c', .int .i64 (putE n k)]) ∧ Row w' B 3 .i64 (.slice A' (putL L n k).length c') (putL L n k) ∧ Below w.heap.size w w' := by
  obtain ⟨_, hc, hC⟩ := Row.kdC hr
  unfold putL putE
  by_cases h1 : k < 0 ∨ 16 < k
  · rw [if_pos h1, if_neg (by decide)]
    exact (refput_arg w A L.length c n k h1).mono fun e w' h => ⟨A, c, h.1, by rw [← h.2]; exact hr, by rw [← h.2]; exact Below.refl _ _⟩
  · rw [if_neg h1]
    obtain ⟨k, rfl⟩ := Int.eq_ofNat_of_zero_le (show 0 ≤ k by omega)
    rw [Int.toNat_natCast]
    by_cases h2 : n < 0 ∨ 2 ^ k ≤ n
    · rw [if_pos h2, if_neg (by decide)]
      exact (refput_range w A L.length c n k (by omega) h2).mono fun e w' h => ⟨A, c, h.1, by obtain ⟨_, nd, rfl⟩ := h; exact hr, by obtain ⟨_, nd, rfl⟩ := h; exact pw_below_drewN (Below.refl _ _) nd⟩
    · rw [if_neg h2, if_pos rfl]
      refine (refput_ok w A c L n k hC hc (by omega) (by omega) (by omega) hL).mono fun e w' h => ?_
      obtain ⟨v, he, h3, h4⟩ := h
      obtain ⟨A', n', c', hv, hn'⟩ := h3.shape
      subst hv
      obtain rfl := hn'.out
      exact ⟨A', c', he, h3.lower hB, h4⟩
theorem wrput_any (w : World) (B g : Nat) (t : TypeId) (post : List Value) (L : List Int) (n k : Int) (h : WrAt w B g t post L) (hne : 5 ≠ t) (hw : (Lit.int .i64 n).wf = true) (hL : L.length ≤ 100000000) (hB : B ≤ w.heap.size) :
    Calls Try.prog 36 #[.pointer (some ⟨g, 0, none⟩), .int .i64 n, .int .i64 k] w fun e w' => e = .returned (.int .i64 (putE n k)) ∧ WrAt w' B g t post (putL L n k) ∧ Fr w w' (SU B g w) := by
  have hn := wf64 hw
  unfold putL putE
  by_cases h1 : k < 0 ∨ 16 < k
  · rw [if_pos h1, if_neg (by decide)]
    exact (wr_put_arg w g n k h1).mono fun e w' hh => ⟨hh.1, by rw [← hh.2]; exact h, by rw [← hh.2]; exact Fr.refl _ _⟩
  · rw [if_neg h1]
    obtain ⟨k, rfl⟩ := Int.eq_ofNat_of_zero_le (show 0 ≤ k by omega)
    rw [Int.toNat_natCast]
    by_cases h2 : n < 0 ∨ 2 ^ k ≤ n
    · rw [if_pos h2, if_neg (by decide)]
      exact (wr_put_range w g n k (by omega) h2 hn.2).mono fun e w' hh => ⟨hh.1, by rw [← hh.2]; exact h, by rw [← hh.2]; exact Fr.refl _ _⟩
    · rw [if_neg h2, if_pos rfl]
      exact wr_put w B g t post L n k h hne (by omega) (by omega) (by omega) hL hB
end Go.Proofs.Ytbgdadehjnifeaa.Hand
