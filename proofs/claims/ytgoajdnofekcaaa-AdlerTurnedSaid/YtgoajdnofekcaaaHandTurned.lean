/- binderylaw05.AdlerTurned answers true: walked by hand over the contract of adler.Sum. -/
import Derived.Test.YtgoajdnofekcaaaP05x2
import Derived.Test.YtgoajdnofekcaaaLem05
namespace Go.Proofs.Ytgoajdnofekcaaa.Hand
open Go.RowKit Go.Proofs.YtgoajdnofekcaaaW.PrintWords Go.Proofs.YtgoajdnofekcaaaW.PrintLast Go.Proofs.YtgoajdnofekcaaaW.PrintMore Go.Proofs.Ytgoajdnofekcaaa.P05 Go.Proofs.Ytgoajdnofekcaaa.Num Go.Proofs.Ytgoajdnofekcaaa.Lem05
set_option linter.unusedVariables false
set_option linter.unusedSimpArgs false

theorem sums_true (w : World) : Calls Try.prog 16 #[] w fun e w' => e = .returned (.bool true) ∧ Below w.heap.size w w' := by
  obtain ⟨k, h⟩ := sums_ev.rounds
  exact binderylaw05_sums.calls k true w h

/-- The text with one byte turned. -/
def setByte (s : ByteArray) (i : Nat) (v : Int) : ByteArray := strOfNums ((bytesOf s).set i v)
theorem setByte_size (s : ByteArray) (i : Nat) (v : Int) : (setByte s i v).size = s.size := by
  unfold setByte; rw [strOfNums_size, List.length_set, bytesOf_length]
theorem bt_setByte (s : ByteArray) (i : Nat) (v : Int) (hv0 : 0 ≤ v) (hv1 : v < 256) (hi : i < s.size) (j : Nat) (hj : j < s.size) : bt (setByte s i v) j = if j = i then v else bt s j := by
  have hsz : j < (setByte s i v).size := by rw [setByte_size]; exact hj
  rw [← rd_bytesOf]
  have hb : bytesOf (setByte s i v) = (bytesOf s).set i v := by
    unfold setByte bytesOf
    rw [strOfNums_data, List.map_map]
    apply List.ext_getElem (by simp)
    intro n h1 h2
    rw [List.getElem_map, List.getElem_set]
    have h3 : n < s.data.toList.length := by simpa using h1
    simp only [Function.comp]
    split
    · rename_i e
      subst e
      simp [UInt8.toNat_ofNat, Nat.mod_eq_of_lt (show v.toNat < 256 by omega)]
      omega
    · rename_i e
      simp
  rw [hb]
  split
  · rename_i e
    subst e
    unfold rd
    rw [Int.toNat_natCast, List.getD_eq_getElem?_getD, List.getElem?_set_self (by rw [bytesOf_length]; exact hj)]
    rfl
  · rename_i e
    unfold rd
    rw [Int.toNat_natCast, List.getD_eq_getElem?_getD, List.getElem?_set_ne (by omega), ← List.getD_eq_getElem?_getD]
    have := rd_bytesOf s j
    unfold rd at this
    rwa [Int.toNat_natCast] at this
theorem adlerTo_same (s t : ByteArray) (p : Int × Int) (k : Nat) (h : ∀ j, j < k → bt s j = bt t j) : adlerTo s p k = adlerTo t p k := by
  induction k with
  | zero => rfl
  | succ k ih => rw [adlerTo, adlerTo, ih (fun j hj => h j (by omega)), h k (by omega)]
theorem low_range (s : ByteArray) (k : Nat) : 0 ≤ (adlerTo s (1, 0) k).1 ∧ (adlerTo s (1, 0) k).1 < 65521 := by
  cases k with
  | zero => simp only [adlerTo]; omega
  | succ k => simp only [adlerTo, adlerGrow]; omega
theorem low_turned (s : ByteArray) (i : Nat) (v : Int) (hv0 : 0 ≤ v) (hv1 : v < 256) (hi : i < s.size) (k : Nat) : ∀ (h1 : i + 1 + k ≤ s.size),
    (adlerTo (setByte s i v) (1, 0) (i + 1 + k)).1 = ((adlerTo s (1, 0) (i + 1 + k)).1 + (v - bt s i)) % 65521 := by
  induction k with
  | zero =>
    intro _
    show (adlerTo (setByte s i v) (1, 0) (i + 1)).1 = ((adlerTo s (1, 0) (i + 1)).1 + (v - bt s i)) % 65521
    simp only [adlerTo]
    rw [adlerTo_same (setByte s i v) s (1, 0) i (fun j hj => by rw [bt_setByte s i v hv0 hv1 hi j (by omega), if_neg (by omega)]), bt_setByte s i v hv0 hv1 hi i hi, if_pos rfl]
    simp only [adlerGrow]
    omega
  | succ k ih =>
    intro h1
    have e : i + 1 + (k + 1) = (i + 1 + k) + 1 := by omega
    rw [e]
    simp only [adlerTo, adlerGrow]
    rw [ih (by omega), bt_setByte s i v hv0 hv1 hi _ (by omega), if_neg (by omega)]
    omega
theorem turned_ne (s : ByteArray) (i : Nat) (v : Int) (hv0 : 0 ≤ v) (hv1 : v < 256) (hi : i < s.size) : adlerOf (1, 0) (setByte s i v) = adlerOf (1, 0) s ↔ v = bt s i := by
  constructor
  · intro h
    obtain ⟨k, hk⟩ : ∃ k, s.size = i + 1 + k := ⟨s.size - i - 1, by omega⟩
    have hl := low_turned s i v hv0 hv1 hi k (by omega)
    have r1 := low_range s s.size
    have r2 := low_range (setByte s i v) s.size
    have hb := bt_range s i
    unfold adlerOf at h
    rw [setByte_size] at h
    rw [← hk] at hl
    omega
  · intro h
    unfold adlerOf
    rw [setByte_size, adlerTo_same (setByte s i v) s (1, 0) s.size (fun j hj => by rw [bt_setByte s i v hv0 hv1 hi j hj]; split <;> simp_all)]
theorem xor_turned (x b : Int) (hx0 : 0 ≤ x) (hx1 : x < 256) (hb0 : 0 ≤ b) (hb1 : b < 256) : 0 ≤ bits .xor .u8 x b ∧ bits .xor .u8 x b < 256 ∧ (bits .xor .u8 x b = x ↔ b = 0) := by
  rw [u8_xor x b hx0 hx1 hb0 hb1]
  have h1 : x.toNat ^^^ b.toNat < 256 := Nat.xor_lt_two_pow (n := 8) (by omega) (by omega)
  refine ⟨by omega, by omega, ?_⟩
  constructor
  · intro h
    have h2 : x.toNat ^^^ b.toNat = x.toNat := by omega
    have h3 : b.toNat = 0 := by
      have := congrArg (x.toNat ^^^ ·) h2
      simpa [← Nat.xor_assoc] using this
    omega
  · intro h
    subst h
    simp
    omega

theorem turned_walk (s : ByteArray) (at_ by_ : Int) (w : World) (ws : s.size ≤ 140737488351232) (wa : (Lit.int .u16 at_).wf = true) (wb : (Lit.int .u8 by_).wf = true) :
    Calls Try.prog 6 #[.string s, .int .u16 at_, .int .u8 by_] w fun e w' => e = .returned (.bool true) ∧ Below w.heap.size w w' := by
  by_cases h0 : s.size = 0
  · have hl2 := toList_nil h0
    go_enter Try.func6, Try.ntmps6
    go_wp2_with (go_at_call 16; (with_reducible refine (sums_true _).mono ?_); rintro e w' ⟨rfl, hb⟩)
    go_ret
    exact ⟨rfl, hb⟩
  · have hl2 := toList_some h0
    by_cases h5 : 5000 < s.size
    · have hd : decide ((5000 : Int) < (s.size : Int)) = true := decide_eq_true (by omega)
      go_enter Try.func6, Try.ntmps6
      go_wp2_with (go_at_call 16; (with_reducible refine (sums_true _).mono ?_); rintro e w' ⟨rfl, hb⟩)
      go_ret
      exact ⟨rfl, hb⟩
    · have hd : decide ((5000 : Int) < (s.size : Int)) = false := decide_eq_false (by omega)
      have a0 : 0 ≤ at_ ∧ at_ ≤ 65535 := by simpa [Lit.wf, IntKind.min, IntKind.max, IntKind.bits, IntKind.signed] using wa
      have b0 : 0 ≤ by_ ∧ by_ ≤ 255 := by simpa [Lit.wf, IntKind.min, IntKind.max, IntKind.bits, IntKind.signed] using wb
      obtain ⟨a1, a2⟩ := a0
      obtain ⟨b1, b2⟩ := b0
      clear wa wb
      have e0 : 0 ≤ at_ % (s.size : Int) := Int.emod_nonneg _ (by omega)
      have e1 : at_ % (s.size : Int) < s.size := Int.emod_lt_of_pos _ (by omega)
      obtain ⟨i, hi⟩ : ∃ i : Nat, at_ % (s.size : Int) = i := ⟨(at_ % (s.size : Int)).toNat, by omega⟩
      have hlt : i < s.size := by omega
      clear e0 e1
      have kb := fun W => print_bytes (P := Try.prog) 9 35 5 Try.underlying9 Try.underlying35 Try.underlying5 s W
      have hc := bytes_cell w 5 s i hlt
      have hfr := bytes_free w 5 s i hlt
      have hb := bt_range s i
      obtain ⟨v0, v1, v2⟩ := xor_turned (bt s i) by_ hb.1 (by omega) b1 (by omega)
      have kt := bytes_back (P := Try.prog) w 35 9 5 Try.underlying35 Try.underlying5 Try.underlying9 s i hlt (bits .xor .u8 (bt s i) by_) (grownCap w s.size 0 5)
      have hne := turned_ne s i (bits .xor .u8 (bt s i) by_) v0 v1 hlt
      rw [v2] at hne
      have hf1 : adler_Sum.f (setByte s i (bits .xor .u8 (bt s i) by_)) = some (adlerOf (1, 0) (setByte s i (bits .xor .u8 (bt s i) by_))) := by
        unfold adler_Sum.f; rw [setByte_size, if_pos ws]
      have hf2 : adler_Sum.f s = some (adlerOf (1, 0) s) := by unfold adler_Sum.f; rw [if_pos ws]
      have HF1 := Aside0.mk hf1
      have HF2 := Aside0.mk hf2
      have hq : ((adlerOf (1, 0) (setByte s i (bits .xor .u8 (bt s i) by_)) == adlerOf (1, 0) s) == (by_ == 0)) = true := by
        rw [beq_iff_eq, Bool.eq_iff_iff, beq_iff_eq, beq_iff_eq]; exact hne
      have HQ := Aside0.mk hq
      have HW : Fr w ((Lib.bytesWorld w 5 s).setCell ⟨w.heap.size, i, none⟩ (.int .u8 (bits .xor .u8 (bt s i) by_))) (· = w.heap.size) :=
        (Fr.of_below (bytes_below (Below.refl _ _) (Nat.le_refl _) _ s) _).set1 i _
      have HWA := Aside0.mk HW
      change (convert _ _ _).run Try.prog _ = .ok (.string (setByte s i (bits .xor .u8 (bt s i) by_))) _ at kt
      clear v0 v1 v2 hne hf1 hf2 hq HW hb
      go_enter Try.func6, Try.ntmps6
      go_wp2_with (first | (go_at_call 14; (with_reducible refine (adler_Sum.calls (setByte s i (bits .xor .u8 (bt s i) by_)) _ _ HF1.out).mono ?_); rintro e w1 ⟨rfl, hb1⟩) | (go_at_call 14; (with_reducible refine (adler_Sum.calls s _ _ HF2.out).mono ?_); rintro e w2 ⟨rfl, hb2⟩) | (go_at_call 16; (with_reducible refine (sums_true _).mono ?_); rintro e w3 ⟨rfl, hb3⟩))
      · go_ret
        have c0 := HWA.out.below (B := w.heap.size) (by rintro k rfl; exact Nat.le_refl _) (Nat.le_refl _)
        have c1 := c0.trans (hb1.mono c0.size)
        have c2 := c1.trans (hb2.mono c1.size)
        exact ⟨rfl, c2.trans (hb3.mono c2.size)⟩
      · rename_i hx
        exact absurd (by have := HQ.out; rwa [beq_iff_eq] at this) hx
end Go.Proofs.Ytgoajdnofekcaaa.Hand
