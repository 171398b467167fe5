/- The contracts of adler.Sum and adler.More of the given program: they tell the sum that the plain Lean function 'grow' folds. -/
import Derived.Test.YtgoajdnofekcaaaHandBase
namespace Go.Proofs.Ytgoajdnofekcaaa.Hand
open Go.RowKit Go.Proofs.YtgoajdnofekcaaaW.PrintWords Go.Proofs.YtgoajdnofekcaaaW.PrintLast Go.Proofs.YtgoajdnofekcaaaW.PrintMore
set_option linter.unusedVariables false
set_option linter.unusedSimpArgs false

/-- The halves behind a byte. -/
def adlerGrow (p : Int × Int) (c : Int) : Int × Int := ((p.1 + c) % 65521, (p.2 + (p.1 + c) % 65521) % 65521)

theorem adler_grow_calls (g : Nat) (a b c : Int) (w : World) (hb : w.heap[g]? = some (.cells #[.int .i64 a, .int .i64 b] 48 (0, 0)))
    (ha0 : 0 ≤ a) (ha1 : a < 65536) (hb0 : 0 ≤ b) (hb1 : b < 65536) (hc0 : 0 ≤ c) (hc1 : c < 256) :
    Calls Try.prog 45 #[.pointer (some ⟨g, 0, none⟩), .int .u8 c] w fun e w' => e = .returned (.tuple #[]) ∧ Fr w w' (· = g) ∧ 
      w'.heap[g]? = some (.cells #[.int .i64 (adlerGrow (a, b) c).1, .int .i64 (adlerGrow (a, b) c).2] 48 (0, 0)) := by
  have h0 := blk_cell hb 0
  have h1 := blk_cell hb 1
  have f0 := blk_frozen hb 0
  have f1 := blk_frozen hb 1
  have HF : ∀ u v, Fr w (((w.setCell ⟨g, 0, none⟩ u).setCell ⟨g, 1, none⟩ v).drew) (· = g) := fun u v => (((Fr.refl w _).set1 0 u).set1 1 v).drew
  have HH := Aside0.mk HF
  clear HF
  go_enter Try.func45, Try.ntmps45
  go_wp2
  go_region
  all_goals go_wp2
  all_goals go_end0
  all_goals
    refine ⟨rfl, HH.out _ _, ?_⟩
    have e : ((b + (a + c)) % 65521) = (b + (a + c) % 65521) % 65521 := by omega
    rw [e]
    exact blk_set (blk_set hb 0 _) 1 _

/-- The halves behind a text's first bytes. -/
def adlerTo (s : ByteArray) (p : Int × Int) : Nat → Int × Int
  | 0 => p
  | k + 1 => adlerGrow (adlerTo s p k) (bt s k)
def adlerIn (p : Int × Int) : Prop := 0 ≤ p.1 ∧ p.1 < 65536 ∧ 0 ≤ p.2 ∧ p.2 < 65536
theorem adlerTo_in (s : ByteArray) {p : Int × Int} (h : adlerIn p) (k : Nat) : adlerIn (adlerTo s p k) := by
  cases k with
  | zero => exact h
  | succ k => unfold adlerIn adlerTo adlerGrow; simp only; omega

theorem adler_grow_u8 (g : Nat) (a b : Int) (c : UInt8) (w : World) (hb : w.heap[g]? = some (.cells #[.int .i64 a, .int .i64 b] 48 (0, 0)))
    (hi : adlerIn (a, b)) :
    Calls Try.prog 45 #[.pointer (some ⟨g, 0, none⟩), .int .u8 (c.toNat : Int)] w fun e w' => e = .returned (.tuple #[]) ∧ Fr w w' (· = g) ∧ 
      w'.heap[g]? = some (.cells #[.int .i64 (adlerGrow (a, b) c.toNat).1, .int .i64 (adlerGrow (a, b) c.toNat).2] 48 (0, 0)) := by
  have := c.toNat_lt
  exact adler_grow_calls g a b _ w hb hi.1 hi.2.1 hi.2.2.1 hi.2.2.2 (by omega) (by omega)

theorem adler_told_calls (a b : Int) (w : World) (hi : adlerIn (a, b)) :
    Calls Try.prog 35 #[.agg #[.int .i64 a, .int .i64 b]] w fun e w' => e = .returned (.int .i64 (b * 65536 + a)) ∧ Below w.heap.size w w' := by
  obtain ⟨h1, h2, h3, h4⟩ := hi
  simp only at h1 h2 h3 h4
  go_enter Try.func35, Try.ntmps35
  go_wp2
  go_ret
  exact ⟨rfl, (Below.refl _ _).alloc (Nat.le_refl _) _⟩

set_option maxHeartbeats 1000000 in
theorem adler_take_calls (g : Nat) (a b : Int) (s : ByteArray) (w : World) (hb : w.heap[g]? = some (.cells #[.int .i64 a, .int .i64 b] 48 (0, 0)))
    (hi : adlerIn (a, b)) (hs : s.size ≤ 140737488351232) :
    Calls Try.prog 31 #[.pointer (some ⟨g, 0, none⟩), .string s] w fun e w' => e = .returned (.int .i64 ((adlerTo s (a, b) s.size).2 * 65536 + (adlerTo s (a, b) s.size).1)) ∧ Fr w w' (· = g) := by
  go_enter Try.func31, Try.ntmps31
  go_wp2_with fail
  go_loopw [8] (fun i wr => ∃ k : Nat, k ≤ s.size ∧ i = .int .i64 k ∧ Aside0 (Fr w wr (· = g)) ∧ Aside0 (wr.heap[g]? = some (.cells #[.int .i64 (adlerTo s (a, b) k).1, .int .i64 (adlerTo s (a, b) k).2] 48 (0, 0)))) (fun i _ => s.size - (intOf i).toNat)
  case atStart => exact ⟨0, Nat.zero_le _, rfl, ⟨Fr.refl _ _⟩, ⟨hb⟩⟩
  case round =>
    obtain ⟨k, hk, rfl, HK, HBk⟩ := hrel
    have HI := adlerTo_in s hi k
    generalize he : adlerTo s (a, b) k = p at HBk HI
    obtain ⟨a1, b1⟩ := p
    have HE := Aside0.mk he
    clear he
    have h0 := blk_cell HBk.out 0
    have h1 := blk_cell HBk.out 1
    by_cases hlt : k < s.size
    · go_wp2_with fail
      go_region_with (go_at_call 45; (with_reducible refine (adler_grow_u8 g a1 b1 _ _ (blk_drew HBk.out) HI).mono ?_); rintro e w' ⟨rfl, hk', hb'⟩)
      go_wp2
      go_roundw
      case rel =>
        refine ⟨k + 1, by omega, by go_num, ⟨HK.out.then_ hk'.of_drew⟩, ⟨?_⟩⟩
        have he : adlerTo s (a, b) (k + 1) = adlerGrow (a1, b1) (bt s k) := by rw [adlerTo, HE.out]
        rw [he, bt_nat s k hlt]
        exact hb'
      case measure => simp [intOf]; omega
    · have hks : k = s.size := by omega
      subst hks
      go_wp2_with (go_at_call 35; (with_reducible refine (adler_told_calls a1 b1 _ HI).mono ?_); rintro e w' ⟨rfl, hbl⟩)
      go_ret
      rw [HE.out]
      exact ⟨rfl, HK.out.then_ (Fr.of_below hbl _)⟩

/-- The sum that halves are, behind a text. -/
def adlerOf (p : Int × Int) (s : ByteArray) : Int := (adlerTo s p s.size).2 * 65536 + (adlerTo s p s.size).1
def adler_Sum.f (a0 : ByteArray) : Option Int := if a0.size ≤ 140737488351232 then some (adlerOf (1, 0) a0) else none
theorem adler_Sum.calls (a0 : ByteArray) (r : Int) (w : World) (h : adler_Sum.f a0 = some r) :
    Calls Try.prog 14 #[.string a0] w fun e w' => e = .returned (.int .i64 r) ∧ Below w.heap.size w w' := by
  unfold adler_Sum.f at h
  split at h
  · rename_i hs
    injection h with h
    have HR := Aside0.mk h
    clear h
    go_enter Try.func14, Try.ntmps14
    go_wp2_with fail
    refine (adler_take_calls w.heap.size 1 0 a0 _ (blk_new w _) (by unfold adlerIn; omega) hs).mono ?_
    rintro e w' ⟨rfl, hf⟩
    go_wp2
    go_ret
    rw [← HR.out]
    exact ⟨rfl, (((Fr.refl w (· = w.heap.size)).alloc _).then_ hf).below (by rintro k rfl; omega) (Nat.le_refl _)⟩
  · cases h

/-- Is a number a sum? -/
def adlerIs (n : Int) : Prop := 0 ≤ n ∧ n % 65536 < 65521 ∧ n / 65536 < 65521
instance (n : Int) : Decidable (adlerIs n) := inferInstanceAs (Decidable (_ ∧ _))
def adler_More.f (a0 : Int) (a1 : ByteArray) : Option (Int × Int) := if a1.size ≤ 140737488351232 ∧ -9223372036854775808 ≤ a0 ∧ a0 ≤ 9223372036854775807 then (if adlerIs a0 then some (adlerOf (a0 % 65536, a0 / 65536) a1, 0) else some (0, 3)) else none
theorem adler_parted_calls (n : Int) (w : World) (h0 : 0 ≤ n) (h1 : n ≤ 9223372036854775807) :
    Calls Try.prog 33 #[.int .i64 n] w fun e w' => e = .returned (.agg #[.int .i64 (n % 65536), .int .i64 (n / 65536)]) ∧ Below w.heap.size w w' := by
  go_enter Try.func33, Try.ntmps33
  go_wp2
  exact bodyPost_ret (v := .agg #[.int .i64 (n % 65536), .int .i64 (n / 65536)]) (by simp [results, Try.results33, go_sem]) rfl ⟨rfl, (Below.refl _ _).alloc (Nat.le_refl _) _⟩
theorem eqHalves (d : Nat) (w : World) (x0 y0 : Int) (x1 y1 : Int) :
    (Op.equalIn (d + 2) 46 (.agg #[.int .i64 x0, .int .i64 x1]) (.agg #[.int .i64 y0, .int .i64 y1])).run Try.prog w = .ok (x0 == y0 && (x1 == y1)) w := by
  refine eqA_of Try.underlying46 (by kernel_rfl) ?_
  refine eqf_cons (by rfl) (by go_simp; rfl) (by go_simp; rfl) (by go_simp) ?_
  exact eqf_last (by rfl) (by go_simp; rfl) (by go_simp; rfl) (by go_simp)
attribute [local go_sem high] eqHalves
theorem adler_is_calls (n : Int) (w : World) (h0 : -9223372036854775808 ≤ n) (h1 : n ≤ 9223372036854775807) :
    Calls Try.prog 32 #[.int .i64 n] w fun e w' => e = .returned (.bool (decide (adlerIs n))) ∧ Below w.heap.size w w' := by
  by_cases hn : 0 ≤ n
  · have hb : decide (0 ≤ n) = true := decide_eq_true hn
    go_enter Try.func32, Try.ntmps32
    go_wp2_with (go_at_call 33; (with_reducible refine (adler_parted_calls n _ hn h1).mono ?_); rintro e w' ⟨rfl, hbl⟩)
    go_ret
    have e : (n % 65536 == n % 65536 % 65521 && n / 65536 == n / 65536 % 65521) = decide (adlerIs n) := by
      rw [Bool.eq_iff_iff]
      simp only [Bool.and_eq_true, beq_iff_eq, decide_eq_true_eq]
      unfold adlerIs
      omega
    rw [e]
    exact ⟨rfl, hbl⟩
  · have hb : decide (0 ≤ n) = false := decide_eq_false hn
    have hr : decide (adlerIs n) = false := decide_eq_false (fun h => hn h.1)
    have HR := Aside0.mk hr
    clear hr hn
    go_enter Try.func32, Try.ntmps32
    go_wp2
    go_ret
    rw [HR.out]
    exact ⟨rfl, Below.refl _ _⟩

theorem adlerIs_le {n : Int} (h : adlerIs n) : n ≤ 9223372036854775807 := by unfold adlerIs at h; omega
theorem adler_More.calls (a0 : Int) (a1 : ByteArray) (r1 : Int) (r2 : Int) (w : World) (h : adler_More.f a0 a1 = some (r1, r2)) :
    Calls Try.prog 17 #[.int .i64 a0, .string a1] w fun e w' => e = .returned (.tuple #[.int .i64 r1, .int .i64 r2]) ∧ Below w.heap.size w w' := by
  unfold adler_More.f at h
  split at h
  · rename_i hs
    obtain ⟨hs, hr0, hr1⟩ := hs
    by_cases ha : adlerIs a0
    · rw [if_pos ha] at h
      simp only [Option.some.injEq, Prod.mk.injEq] at h
      obtain ⟨h1, h2⟩ := h
      subst h2
      have HR := Aside0.mk h1
      clear h1
      have hin : adlerIn (a0 % 65536, a0 / 65536) := by unfold adlerIs at ha; unfold adlerIn; simp only; omega
      have h0 := ha.1
      have h9 := adlerIs_le ha
      have hd : decide (adlerIs a0) = true := decide_eq_true ha
      have HD := Aside0.mk hd
      clear hd ha hr0 hr1
      go_enter Try.func17, Try.ntmps17
      go_wp2_with (first | (go_at_call 32; (with_reducible refine (adler_is_calls a0 _ (by omega) h9).mono ?_); rintro e w' ⟨rfl, hbl⟩; rw [HD.out]) | (go_at_call 33; (with_reducible refine (adler_parted_calls a0 _ h0 h9).mono ?_); rintro e w2 ⟨rfl, hbl2⟩) | (go_at_call 31; (with_reducible refine (adler_take_calls w2.heap.size (a0 % 65536) (a0 / 65536) a1 _ (blk_new w2 _) hin hs).mono ?_); rintro e w3 ⟨rfl, hf⟩))
      go_ret2
      rw [← HR.out]
      refine ⟨rfl, ?_⟩
      have b1 : Below w.heap.size w w2 := hbl.trans (hbl2.mono hbl.size)
      exact b1.trans ((((Fr.refl w2 (· = w2.heap.size)).alloc _).then_ hf).below (by rintro k rfl; exact b1.size) b1.size)
    · rw [if_neg ha] at h
      simp only [Option.some.injEq, Prod.mk.injEq] at h
      obtain ⟨h1, h2⟩ := h
      subst h1 h2
      have hd : decide (adlerIs a0) = false := decide_eq_false ha
      have HD := Aside0.mk hd
      clear hd ha
      go_enter Try.func17, Try.ntmps17
      go_wp2_with (first | (go_at_call 32; (with_reducible refine (adler_is_calls a0 _ hr0 hr1).mono ?_); rintro e w' ⟨rfl, hbl⟩; rw [HD.out]))
      go_ret2
      exact ⟨rfl, hbl⟩
  · cases h
end Go.Proofs.Ytgoajdnofekcaaa.Hand
