/- Digits of layer 2: signed, Count, taker, Fixed, Loose; walked by hand. -/
import Derived.Test.YtkmmmlbppobifaaHand15s
import Derived.Laws.RangeAny
import Derived.Laws.Externs
import Derived.Lib.Bytealg
namespace Go.Proofs.Ytkmmmlbppobifaa.Hand
open Go.RowKit Go.Proofs.YtkmmmlbppobifaaW.PrintWords Go.Proofs.YtkmmmlbppobifaaW.PrintLast Go.Proofs.YtkmmmlbppobifaaW.PrintMore Go.Proofs.Ytkmmmlbppobifaa.Num Go.Proofs.Ytkmmmlbppobifaa.P01a
set_option linter.unusedVariables false
set_option linter.unusedSimpArgs false
def ixF (c : Int) : Int := Go.Lib.indexByte (⟨#[43, 45]⟩ : ByteArray).data.toList c.toNat.toUInt8
theorem ix_all : ∀ c : Fin 256, decide (0 ≤ ixF ((c.val : Nat) : Int)) = decide (((c.val : Nat) : Int) = 43 ∨ ((c.val : Nat) : Int) = 45) := by decide +kernel
theorem ibyte_calls (c : Int) (w : World) : Calls Try.prog 60 #[.string ⟨#[43, 45]⟩, .int .u8 c] w fun e w' => e = .returned (.int .i64 (ixF c)) ∧ w' = w := by
 unfold ixF
 go_enter Try.func60, Try.ntmps60
 go_wp2
 rw [run_callFunc_extern Try.func64 (by kernel_rfl) (by kernel_rfl) (by kernel_rfl) (e := Extern.BytealgIndexByte.indexByte) (by kernel_rfl), Go.Lib.run_indexByteString]
 simp only [Result.andThen]
 rw [Oper.upon_value]
 go_wp2
 go_ret
 exact ⟨rfl, rfl⟩
set_option maxHeartbeats 1000000 in
theorem index_calls (t : ByteArray) (ht : t.size = 1) (w : World) : Calls Try.prog 59 #[.string ⟨#[43, 45]⟩, .string t] w fun e w' => e = .returned (.int .i64 (ixF (bt t 0))) ∧ Drawn0 w w' := by
 have hx := nat_bt t 0 (by omega)
 have KI := Aside0.mk (fun W => ibyte_calls (bt t 0) W)
 have hx' : ((t[0]'(by omega)).toNat : Int) = bt t 0 := hx
 generalize bt t 0 = c at *
 have s0 : (0 : Int) < (t.size : Int) := by omega
 have hsz : (t.size : Int) = 1 := by omega
 have hne : (t.toList == [43, 45]) = false := beq_false_of_ne (fun h => by
  have := congrArg List.length h
  rw [ByteArray.toList_eq] at this
  simp at this
  have h2 : t.data.size = t.size := rfl
  omega)
 clear hx
 go_enter Try.func59, Try.ntmps59
 go_wp2_with (go_at_call 60; refine (KI.out _).mono ?_; rintro e w1 ⟨rfl, rfl⟩)
 go_ret
 exact ⟨rfl, Drawn0.refl _⟩
theorem sindex_calls (t : ByteArray) (ht : t.size = 1) (w : World) : Calls Try.prog 56 #[.string ⟨#[43, 45]⟩, .string t] w fun e w' => e = .returned (.int .i64 (ixF (bt t 0))) ∧ Drawn0 w w' := by
 have KI := Aside0.mk (index_calls t ht w)
 generalize ixF (bt t 0) = c at *
 go_enter Try.func56, Try.ntmps56
 go_wp2_with fail
 refine KI.out.mono ?_
 rintro e w1 ⟨rfl, hd⟩
 go_wp2_with fail
 go_ret
 exact ⟨rfl, hd⟩
theorem contains_calls (t : ByteArray) (ht : t.size = 1) (w : World) : Calls Try.prog 53 #[.string ⟨#[43, 45]⟩, .string t] w fun e w' => e = .returned (.bool (decide (bt t 0 = 43 ∨ bt t 0 = 45))) ∧ Drawn0 w w' := by
 have KI := Aside0.mk (sindex_calls t ht w)
 have hr := bt_range t 0
 obtain ⟨m, hm⟩ := Int.eq_ofNat_of_zero_le hr.1
 have ha : decide (0 ≤ ixF (bt t 0)) = decide (bt t 0 = 43 ∨ bt t 0 = 45) := by rw [hm]; exact ix_all ⟨m, by omega⟩
 generalize ixF (bt t 0) = c at *
 clear hm hr
 obtain ⟨b, hb⟩ : ∃ b, b = decide (bt t 0 = 43 ∨ bt t 0 = 45) := ⟨_, rfl⟩
 rw [← hb] at ha ⊢
 clear hb
 go_enter Try.func53, Try.ntmps53
 go_wp2_with fail
 refine KI.out.mono ?_
 rintro e w1 ⟨rfl, hd⟩
 go_wp2_with fail
 go_ret
 exact ⟨rfl, hd⟩
def minusF (s : ByteArray) : Bool := decide (0 < s.size ∧ bt s 0 = 45)
def restF (s : ByteArray) : ByteArray := if 0 < s.size ∧ (bt s 0 = 43 ∨ bt s 0 = 45) then s.extract 1 s.size else s
set_option maxHeartbeats 2000000 in
theorem signed_calls (s : ByteArray) (w : World) (hs : s.size ≤ 1000000) : Calls Try.prog 50 #[.string s, .string ⟨#[43, 45]⟩] w fun e w' => e = .returned (.tuple #[.bool (minusF s), .string (restF s)]) ∧ Drawn0 w w' := by
 by_cases h0 : 0 < s.size
 ·have hne : (s.toList == []) = false := beq_false_of_ne (fun h => by have := (toList_bytes s).1 h; omega)
  have hne2 : (s.toList.isEmpty) = false := by
   cases h : s.toList with
   | nil => rw [h] at hne; cases hne
   | cons => rfl
  have hne3 : ¬ s.toList = [] := fun h => by rw [h] at hne; cases hne
  have hx : ((s[0]'h0).toNat : Int) = bt s 0 := nat_bt s 0 h0
  have s0 : (0 : Int) < (s.size : Int) := by omega
  have s1 : (1 : Int) ≤ (s.size : Int) := by omega
  have hsz : (s.extract 0 1).size = 1 := by rw [ByteArray.size_extract]; omega
  have hb1 : bt (s.extract 0 1) 0 = bt s 0 := bt_extract s 0 1 0 (by omega) (by omega)
  have ksl : ∀ W : World, (Instr.slice 9 (.string s) none (some (.int .i64 1)) none).run Try.prog W = .ok (.string (s.extract 0 1)) W := fun W => by
   have := run_slice_string_h (P := Try.prog) W 9 s Try.underlying9 .i64 (1 : Int) (by omega) (by omega)
   simpa using this
  have ksr : ∀ W : World, (Instr.slice 9 (.string s) (some (.int .i64 1)) none none).run Try.prog W = .ok (.string (s.extract 1 s.size)) W := fun W => by
   have := run_slice_string_l (P := Try.prog) W 9 s Try.underlying9 .i64 (1 : Int) (by omega) (by omega)
   simpa using this
  have KC := fun W => contains_calls (s.extract 0 1) hsz W
  rw [hb1] at KC
  obtain ⟨b, hb⟩ : ∃ b, b = decide (bt s 0 = 43 ∨ bt s 0 = 45) := ⟨_, rfl⟩
  rw [← hb] at KC
  have HR : Aside0 (restF s = if b = true then s.extract 1 s.size else s) := ⟨by
   unfold restF
   rw [hb]
   by_cases h : bt s 0 = 43 ∨ bt s 0 = 45
   ·rw [if_pos ⟨h0, h⟩, decide_eq_true h, if_pos rfl]
   ·rw [if_neg (fun hh => h hh.2), decide_eq_false h, if_neg (by decide)]⟩
  have HM : Aside0 (minusF s = (bt s 0 == 45) ∧ (b = false → minusF s = false)) := ⟨⟨by unfold minusF; rw [Bool.eq_iff_iff, decide_eq_true_iff, beq_iff_eq]; exact ⟨fun h => h.2, fun h => ⟨h0, h⟩⟩, fun h => by
   unfold minusF
   rw [h] at hb
   have := of_decide_eq_false hb.symm
   exact decide_eq_false (fun hh => this (.inr hh.2))⟩⟩
  obtain ⟨t, ht⟩ : ∃ t, t = s.extract 0 1 := ⟨_, rfl⟩
  rw [← ht] at KC ksl
  obtain ⟨r, hr⟩ : ∃ r, r = s.extract 1 s.size := ⟨_, rfl⟩
  rw [← hr] at ksr HR
  generalize bt s 0 = c at *
  have HKC := Aside0.mk KC
  clear KC hb ht hr hsz hb1
  cases b with
  | true =>
   go_enter Try.func50, Try.ntmps50
   go_wp2_with (go_at_call 53; refine (HKC.out _).mono ?_; rintro e w1 ⟨rfl, ⟨nd, rfl⟩⟩)
   go_quiet (fail)
   go_wp2_with fail
   go_returns
   have hr := HR.out
   simp at hr
   rw [HM.out.1, hr]
   exact ⟨rfl, ⟨_, World.drewN_drewN _ _ _⟩⟩
  | false =>
   go_enter Try.func50, Try.ntmps50
   go_wp2_with (go_at_call 53; refine (HKC.out _).mono ?_; rintro e w1 ⟨rfl, ⟨nd, rfl⟩⟩)
   go_returns
   have hr := HR.out
   simp at hr
   rw [HM.out.2 trivial, hr]
   exact ⟨rfl, ⟨_, rfl⟩⟩
 ·have hs0 : s = ⟨#[]⟩ := by
   apply bytes_ext
   have : (bytesOf s).length = 0 := by rw [bytesOf_length]; omega
   rw [List.eq_nil_of_length_eq_zero this]; rfl
  subst hs0
  go_enter Try.func50, Try.ntmps50
  go_wp2_with fail
  go_returns
  exact ⟨rfl, Drawn0.refl _⟩
def cntF (s : ByteArray) : Nat → Nat → Nat
 | 0, i => i
 | k + 1, i => if i < s.size ∧ 48 ≤ bt s (i : Int) ∧ bt s (i : Int) ≤ 57 then cntF s k (i + 1) else i
theorem digit_calls (c : Int) (b : Bool) (hb : b = decide (48 ≤ c ∧ c ≤ 57)) (w : World) : Calls Try.prog 57 #[.int .i32 c] w fun e w' => e = .returned (.bool b) ∧ w' = w := by
 by_cases h1 : 48 ≤ c
 ·have d1 : decide (48 ≤ c) = true := decide_eq_true h1
  by_cases h2 : c ≤ 57
  ·have d2 : decide (c ≤ 57) = true := decide_eq_true h2
   obtain rfl : b = true := by rw [hb]; exact decide_eq_true ⟨h1, h2⟩
   clear hb
   go_enter Try.func57, Try.ntmps57
   go_wp2
   go_ret
   exact ⟨rfl, rfl⟩
  ·have d2 : decide (c ≤ 57) = false := decide_eq_false h2
   obtain rfl : b = false := by rw [hb]; exact decide_eq_false (fun h => h2 h.2)
   clear hb
   go_enter Try.func57, Try.ntmps57
   go_wp2
   go_ret
   exact ⟨rfl, rfl⟩
 ·have d1 : decide (48 ≤ c) = false := decide_eq_false h1
  obtain rfl : b = false := by rw [hb]; exact decide_eq_false (fun h => h1 h.1)
  clear hb
  go_enter Try.func57, Try.ntmps57
  go_wp2
  go_ret
  exact ⟨rfl, rfl⟩
set_option maxRecDepth 100000 in
set_option maxHeartbeats 2000000 in
theorem count_calls (s : ByteArray) (w : World) (hs : s.size ≤ 1000000) (K : Nat) (hK : s.size < K) : Calls Try.prog 54 #[.string s] w fun e w' => e = .returned (.int .i64 ((cntF s K 0 : Nat) : Int)) ∧ Below w.heap.size w w' := by
 obtain ⟨res, hres⟩ : ∃ r, r = cntF s K 0 := ⟨_, rfl⟩
 rw [← hres]
 have HRES := Aside0.mk hres
 clear hres
 go_enter Try.func54, Try.ntmps54
 go_wp2_with fail
 go_loopg [] K (fun kq wr => ∃ i : Nat, i ≤ s.size ∧ s.size < i + kq ∧ Aside0 (wr = w.iter s i) ∧ Aside0 (res = cntF s kq i))
 case atStart => exact ⟨0, Nat.zero_le _, by omega, ⟨rfl⟩, HRES⟩
 case round =>
  clear HRES
  obtain ⟨i, hi, hk, HW, HR⟩ := hrel
  have hw := HW.out
  subst hw
  have HBW : Aside0 (∀ j, Below w.heap.size w (w.iter s j)) := ⟨fun j => below_alloc (Below.refl _ _) _⟩
  cases gk with
  | zero => exact absurd hk (by omega)
  | succ k1 =>
   have hrec := HR.out
   rw [cntF] at hrec
   by_cases hlt : i < s.size
   ·by_cases ha : (s[i]'hlt).toNat < 128
    ·have hnx := fun ty => run_next_ascii (P := Try.prog) w s i ty hlt ha
     have hx := nat_bt s i hlt
     obtain ⟨b, hb⟩ : ∃ b, b = decide (48 ≤ bt s (i : Int) ∧ bt s (i : Int) ≤ 57) := ⟨_, rfl⟩
     have KD := Aside0.mk (fun W => digit_calls (bt s (i : Int)) b hb W)
     have hr2 : res = if b = true then cntF s k1 (i + 1) else i := by
      rw [hrec, hb]
      by_cases h : 48 ≤ bt s (i : Int) ∧ bt s (i : Int) ≤ 57
      ·rw [if_pos ⟨hlt, h⟩, decide_eq_true h, if_pos rfl]
      ·rw [if_neg (fun hh => h hh.2), decide_eq_false h, if_neg (by decide)]
     have HR2 := Aside0.mk hr2
     rw [hx] at hnx
     generalize bt s (i : Int) = c at hnx KD
     clear hrec HR HW hb hr2 hx ha
     cases b with
     | true =>
      have hr3 := HR2.out
      rw [if_pos rfl] at hr3
      have HR3 := Aside0.mk hr3
      clear HR2 hr3
      go_wp2_with (go_at_call 57; refine (KD.out _).mono ?_; rintro e w1 ⟨rfl, hw1⟩; subst hw1)
      go_roundg k1
      case measure => omega
      case rel => exact ⟨i + 1, by omega, by omega, ⟨rfl⟩, HR3⟩
     | false =>
      have hr3 := HR2.out
      rw [if_neg (by decide)] at hr3
      subst hr3
      go_wp2_with (go_at_call 57; refine (KD.out _).mono ?_; rintro e w1 ⟨rfl, hw1⟩; subst hw1)
      go_returns
      exact ⟨rfl, HBW.out _⟩
    ·have hnx := fun ty => run_next_any (P := Try.prog) w s i ty hlt
     have hd := (decode_high s i hlt (by omega)).1
     have hx := nat_bt s i hlt
     have hres : res = i := by rw [hrec, if_neg (fun h => by omega)]
     obtain rfl : i = res := hres.symm
     generalize (Utf8.decode s i).1 = cc at hnx hd
     generalize (Utf8.decode s i).2 = dd at hnx
     have KD := Aside0.mk (fun W => digit_calls (cc : Int) false (decide_eq_false (by omega)).symm W)
     clear hrec HR HW hx ha hd
     go_wp2_with (go_at_call 57; refine (KD.out _).mono ?_; rintro e w1 ⟨rfl, hw1⟩; subst hw1)
     go_returns
     exact ⟨rfl, HBW.out _⟩
   ·have hnx := fun ty => run_next_end (P := Try.prog) w s i ty hlt
    have hr2 : res = i := by rw [hrec, if_neg (fun h => hlt h.1)]
    obtain rfl : i = s.size := by omega
    subst hr2
    clear hrec HR HW
    go_wp2_with fail
    go_returns
    exact ⟨rfl, HBW.out _⟩
structure Tk (W : World) (ab sb : Nat) (s : ByteArray) (i : Nat) : Prop where
 at_ : W.heap[ab]? = some (.cells #[.int .i64 (i : Int)] 3 (0, 0))
 str : W.heap[sb]? = some (.cells #[.string s] 9 (0, 0))
theorem taker_calls (s : ByteArray) (w : World) : Calls Try.prog 55 #[.string s] w fun e w' => e = .returned (.func (.func 58) #[] #[.pointer (some ⟨w.heap.size + 1, 0, none⟩), .pointer (some ⟨w.heap.size, 0, none⟩)]) ∧ Tk w' (w.heap.size + 1) w.heap.size s 0 ∧ Below w.heap.size w w' := by
 have h1 : Tk ((w.alloc (.cells #[.string s] 9)).alloc (.cells #[.int .i64 0] 3)) (w.heap.size + 1) w.heap.size s 0 := ⟨heap_alloc2_new _ _ _, heap_alloc2_old _ _ _⟩
 have h2 : Below w.heap.size w ((w.alloc (.cells #[.string s] 9)).alloc (.cells #[.int .i64 0] 3)) := below_alloc (below_alloc (Below.refl _ _) _) _
 have HH := Aside0.mk (And.intro h1 h2)
 clear h1 h2
 go_enter Try.func55, Try.ntmps55
 go_wp2_with fail
 go_returns
 exact ⟨rfl, HH.out.1, HH.out.2⟩
set_option maxHeartbeats 2000000 in
theorem next_calls (W : World) (ab sb : Nat) (s : ByteArray) (i : Nat) (h : Tk W ab sb s i) (hs : s.size ≤ 1000000) (hi : i ≤ s.size) (hd : i < s.size → 48 ≤ bt s (i : Int) ∧ bt s (i : Int) ≤ 57) :
  Calls Try.prog 58 #[.pointer (some ⟨ab, 0, none⟩), .pointer (some ⟨sb, 0, none⟩)] W fun e w' => e = .returned (.int .i64 (if i < s.size then bt s (i : Int) - 48 else -1)) ∧ Tk w' ab sb s (if i < s.size then i + 1 else i) ∧ Fr W w' (· = ab) := by
 have c0 : W.cell? ⟨ab, 0, none⟩ = some (.int .i64 (i : Int)) := blk_cell h.at_ 0
 have c1 : W.cell? ⟨sb, 0, none⟩ = some (.string s) := blk_cell h.str 0
 have f0 : W.frozen? ⟨ab, 0, none⟩ = false := blk_frozen h.at_ 0
 have H := Aside0.mk h
 have hne : sb ≠ ab := by
  rintro rfl
  have := h.str; rw [h.at_] at this; injection this with this; injection this with _ this; exact absurd this (by decide)
 by_cases hlt : i < s.size
 ·rw [if_pos hlt, if_pos hlt]
  have hd2 := hd hlt
  have hx := nat_bt s i hlt
  have q1 : decide ((s.size : Int) ≤ (i : Int)) = false := decide_eq_false (by omega)
  have q1n : decide (s.size ≤ i) = false := decide_eq_false (by omega)
  have KD := Aside0.mk (fun W => digit_calls (bt s (i : Int)) true (decide_eq_true hd2).symm W)
  generalize bt s (i : Int) = c at *
  have p1 : (0 : Int) ≤ (i : Int) := by omega
  have p2 : (i : Int) < (s.size : Int) := by omega
  obtain ⟨j, hj⟩ : ∃ j, j = i + 1 := ⟨_, rfl⟩
  have e1 : (i : Int) + 1 = (j : Int) := by omega
  have e2 : (j : Int) - 1 = (i : Int) := by omega
  have h1 : (W.setCell ⟨ab, 0, none⟩ (.int .i64 (j : Int))).heap[ab]? = some (.cells #[.int .i64 (j : Int)] 3 (0, 0)) := blk_set h.at_ 0 _
  have h2 : (W.setCell ⟨ab, 0, none⟩ (.int .i64 (j : Int))).heap[sb]? = some (.cells #[.string s] 9 (0, 0)) := blk_far h.str (p := ⟨ab, 0, none⟩) hne _
  have hf : Fr W (W.setCell ⟨ab, 0, none⟩ (.int .i64 (j : Int))) (· = ab) := (Fr.refl W _).set1 (g := ab) 0 _
  have HK : Aside0 (Tk (W.setCell ⟨ab, 0, none⟩ (.int .i64 (j : Int))) ab sb s j ∧ Fr W (W.setCell ⟨ab, 0, none⟩ (.int .i64 (j : Int))) (· = ab)) := ⟨⟨h1, h2⟩, hf⟩
  have HJ := Aside0.mk hj
  have hcw : IntKind.u8.wrap (c - 48) = c - 48 := by rw [IntKind.wrap_u8]; omega
  have hcm : (c - 48) % 256 = c - 48 := by omega
  clear hd h hj h1 h2 hf
  go_enter Try.func58, Try.ntmps58
  go_upto_region 4 with (go_at_call 57; refine (KD.out _).mono ?_; rintro e w1 ⟨rfl, hw1⟩; obtain rfl := hw1.symm)
  generalize World.setCell W _ _ = W1 at HK ⊢
  have c2 : W1.cell? ⟨ab, 0, none⟩ = some (.int .i64 (j : Int)) := blk_cell HK.out.1.at_ 0
  have c3 : W1.cell? ⟨sb, 0, none⟩ = some (.string s) := blk_cell HK.out.1.str 0
  clear c0 c1 f0 e1
  go_wp2_with fail
  (try go_quiet (fail))
  (try go_wp2_with fail)
  go_returns
  rw [← HJ.out]
  exact ⟨rfl, HK.out.1, HK.out.2⟩
 ·rw [if_neg hlt, if_neg hlt]
  have q1 : decide ((s.size : Int) ≤ (i : Int)) = true := decide_eq_true (by omega)
  have q1n : decide (s.size ≤ i) = true := decide_eq_true (by omega)
  clear hd h
  go_enter Try.func58, Try.ntmps58
  go_wp2_with fail
  go_returns
  exact ⟨rfl, H.out, Fr.refl _ _⟩
def fixL (s : ByteArray) : Nat → Nat → Int → Int × Int
 | 0, _, _ => (0, 99)
 | k + 1, i, n => if i < s.size then (if 2147483647 < 10 * n + (bt s (i : Int) - 48) then (0, 3) else fixL s k (i + 1) (10 * n + (bt s (i : Int) - 48))) else (n, 0)
def fixedF (s : ByteArray) : Int × Int := if s.size = 0 ∨ cntF s (s.size + 1) 0 ≠ s.size then (0, 4) else fixL s (s.size + 1) 0 0
theorem cntF_digits (s : ByteArray) : ∀ (k i : Nat), s.size < i + k → i ≤ s.size → cntF s k i = s.size → ∀ j, i ≤ j → j < s.size → 48 ≤ bt s (j : Int) ∧ bt s (j : Int) ≤ 57
 | 0, i, h, hi, _, j, h1, h2 => by omega
 | k + 1, i, h, hi, hc, j, h1, h2 => by
  rw [cntF] at hc
  split at hc
  ·rename_i hh
   by_cases hj : j = i
   ·rw [hj]; exact hh.2
   ·exact cntF_digits s k (i + 1) (by omega) (by omega) hc j (by omega) h2
  ·omega
theorem Tk.below {W W1 : World} {ab sb : Nat} {s : ByteArray} {i : Nat} (h : Tk W ab sb s i) (hb : Below W.heap.size W W1) : Tk W1 ab sb s i := ⟨blk_below h.at_ hb, blk_below h.str hb⟩
theorem next_any (W : World) (ab sb : Nat) (s : ByteArray) (i : Nat) (h : Tk W ab sb s i) (hs : s.size ≤ 1000000) (hi : i ≤ s.size) (hd : ∀ j, j < s.size → 48 ≤ bt s (j : Int) ∧ bt s (j : Int) ≤ 57) :
  Calls Try.prog 58 #[.pointer (some ⟨ab, 0, none⟩), .pointer (some ⟨sb, 0, none⟩)] W fun e w' => ∃ d : Int, e = .returned (.int .i64 d) ∧ Aside0 (d = if i < s.size then bt s (i : Int) - 48 else -1) ∧ Tk w' ab sb s (if i < s.size then i + 1 else i) ∧ Fr W w' (· = ab) :=
 (next_calls W ab sb s i h hs hi (fun h => hd i h)).mono fun e w' h => ⟨_, h.1, ⟨rfl⟩, h.2⟩
set_option maxRecDepth 100000 in
set_option maxHeartbeats 2000000 in
theorem fixed_calls (s : ByteArray) (w : World) (hs : s.size ≤ 1000000) : Calls Try.prog 51 #[.string s] w fun e w' => e = .returned (.tuple #[.int .i64 (fixedF s).1, .int .i64 (fixedF s).2]) ∧ Below w.heap.size w w' := by
 by_cases h0 : 0 < s.size
 ·have hne : (s.toList == []) = false := beq_false_of_ne (fun h => by have := (toList_bytes s).1 h; omega)
  have hne2 : (s.toList.isEmpty) = false := by
   cases h : s.toList with
   | nil => rw [h] at hne; cases hne
   | cons => rfl
  have hne3 : ¬ s.toList = [] := fun h => by rw [h] at hne; cases hne
  have KC := Aside0.mk (fun W => count_calls s W hs (s.size + 1) (by omega))
  by_cases hall : cntF s (s.size + 1) 0 = s.size
  ·have hd := cntF_digits s (s.size + 1) 0 (by omega) (Nat.zero_le _) hall
   have hdg : Aside0 (∀ j, j < s.size → 48 ≤ bt s (j : Int) ∧ bt s (j : Int) ≤ 57) := ⟨fun j h => hd j (Nat.zero_le _) h⟩
   have hf : fixedF s = fixL s (s.size + 1) 0 0 := if_neg (fun h => h.elim (by omega) (fun h => h hall))
   have KC := KC.out
   rw [hall] at KC
   have KC := Aside0.mk KC
   rw [hf]
   obtain ⟨K, hK⟩ : ∃ K, K = s.size + 1 := ⟨_, rfl⟩
   rw [← hK]
   have hK1 : s.size < K := by omega
   obtain ⟨res, hres⟩ : ∃ r, r = fixL s K 0 0 := ⟨_, rfl⟩
   rw [← hres]
   have HRES := Aside0.mk hres
   have KT := Aside0.mk (fun W => taker_calls s W)
   have q1 : ((s.size : Int) != (s.size : Int)) = false := by simp
   clear hd hall hf hK hres
   go_enter Try.func51, Try.ntmps51
   go_wp2_with (go_at_call 54; refine (KC.out _).mono ?_; rintro e w1 ⟨rfl, hb1⟩)
   refine (KT.out _).mono ?_
   rintro e w2 ⟨rfl, ht2, hb2⟩
   obtain ⟨ab, hab⟩ : ∃ q, q = w1.heap.size + 1 := ⟨_, rfl⟩
   obtain ⟨sb, hsb⟩ : ∃ q, q = w1.heap.size := ⟨_, rfl⟩
   have HWA : Aside0 (Below w.heap.size w w2 ∧ w.heap.size ≤ ab) := ⟨hb1.trans (hb2.mono hb1.size), by have := hb1.size; omega⟩
   rw [← hab, ← hsb] at ht2 ⊢
   have HT2 := Aside0.mk ht2
   have KN := Aside0.mk (next_any w2 ab sb s 0 ht2 hs (Nat.zero_le _) hdg.out)
   clear hab hsb hb1 hb2 ht2 KC KT
   go_wp2_with fail
   refine KN.out.mono ?_
   rintro e w3 ⟨d, rfl, HD, ht3, hf3⟩
   rw [if_pos h0] at ht3
   have hd2 := HD.out
   rw [if_pos h0] at hd2
   have HD2 : Aside0 (d = bt s ((0 : Nat) : Int) - 48) := ⟨hd2⟩
   have HT3 := Aside0.mk ht3
   have HB3 : Aside0 (Below w.heap.size w w3) := ⟨HWA.out.1.trans (hf3.below (fun k hk => by subst hk; exact HWA.out.2) HWA.out.1.size)⟩
   clear hd2 ht3 hf3 HD KN HT2
   go_wp2_with fail
   go_loopg [5, 6] K (fun kq v5 v6 wr => ∃ (i : Nat) (n d : Int), v5 = .int .i64 n ∧ v6 = .int .i64 d ∧ i ≤ s.size ∧ s.size < i + kq ∧ 0 ≤ n ∧ n ≤ 2147483647 ∧ Aside0 (d = if i < s.size then bt s (i : Int) - 48 else -1) ∧ Aside0 (Tk wr ab sb s (if i < s.size then i + 1 else i)) ∧ Aside0 (Below w.heap.size w wr) ∧ Aside0 (res = fixL s kq i n))
   case atStart => exact ⟨0, 0, d, rfl, rfl, Nat.zero_le _, by omega, by decide, by decide, ⟨by rw [if_pos h0]; exact HD2.out⟩, ⟨by rw [if_pos h0]; exact HT3.out⟩, HB3, HRES⟩
   case round =>
    clear HRES HT3 HB3 HD2
    obtain ⟨i, n, d', rfl, rfl, hi, hk, hn0, hn1, HD, HT, HB, HR⟩ := hrel
    cases gk with
    | zero => exact absurd hk (by omega)
    | succ k1 =>
     have hrec := HR.out
     rw [fixL] at hrec
     have hd := HD.out
     have ht := HT.out
     by_cases hlt : i < s.size
     ·rw [if_pos hlt] at hrec hd ht
      rw [← hd] at hrec
      have hdr := hdg.out i hlt
      have hdd : 0 ≤ d' ∧ d' ≤ 9 := by omega
      have s1 : decide (0 ≤ d') = true := decide_eq_true hdd.1
      obtain ⟨m, hm⟩ : ∃ m, m = 10 * n + d' := ⟨_, rfl⟩
      rw [← hm] at hrec
      have em : 10 * n + d' = m := hm.symm
      have hm0 : 0 ≤ m ∧ m ≤ 30000000000 := by omega
      have HREC := Aside0.mk hrec
      have KN := Aside0.mk (next_any wr ab sb s (i + 1) ht hs (by omega) hdg.out)
      clear hrec HR hd ht hdr hm HD HT
      by_cases hbig : 2147483647 < m
      ·have s2 : decide (2147483647 < m) = true := decide_eq_true hbig
       have hrec := HREC.out
       rw [if_pos hbig] at hrec
       subst hrec
       go_wp2_with fail
       go_returns
       exact ⟨rfl, HB.out⟩
      ·have s2 : decide (2147483647 < m) = false := decide_eq_false hbig
       have hrec := HREC.out
       rw [if_neg hbig] at hrec
       have HR3 := Aside0.mk hrec
       clear hrec HREC
       go_wp2_with fail
       refine KN.out.mono ?_
       rintro e w4 ⟨d2, rfl, HD2, ht4, hf4⟩
       have HT4 := Aside0.mk ht4
       have HB4 : Aside0 (Below w.heap.size w w4) := ⟨HB.out.trans (hf4.below (fun k hk => by subst hk; exact HWA.out.2) HB.out.size)⟩
       clear ht4 hf4 KN HB em
       go_wp2_with fail
       go_roundg k1
       case measure => omega
       case rel => exact ⟨i + 1, m, d2, rfl, rfl, by omega, by omega, hm0.1, by omega, HD2, HT4, HB4, HR3⟩
     ·rw [if_neg hlt] at hrec hd
      subst hd hrec
      clear ht HD HT
      go_wp2_with fail
      go_returns
      exact ⟨rfl, HB.out⟩
  ·have hf : fixedF s = (0, 4) := if_pos (.inr hall)
   rw [hf]
   obtain ⟨q, hq⟩ : ∃ q, q = cntF s (s.size + 1) 0 := ⟨_, rfl⟩
   have KC := KC.out
   rw [← hq] at KC hall
   have KC := Aside0.mk KC
   have q1 : ((q : Int) != (s.size : Int)) = true := bne_iff_ne.2 (by omega)
   clear hf hq hall
   go_enter Try.func51, Try.ntmps51
   go_wp2_with (go_at_call 54; refine (KC.out _).mono ?_; rintro e w1 ⟨rfl, hb1⟩)
   go_returns
   exact ⟨rfl, hb1⟩
 ·have hs0 : s = ⟨#[]⟩ := by
   apply bytes_ext
   have : (bytesOf s).length = 0 := by rw [bytesOf_length]; omega
   rw [List.eq_nil_of_length_eq_zero this]; rfl
  have hf : fixedF s = (0, 4) := if_pos (.inl (by omega))
  rw [hf]
  subst hs0
  clear hf
  go_enter Try.func51, Try.ntmps51
  go_wp2_with fail
  go_returns
  exact ⟨rfl, Below.refl _ _⟩
def looseF (s : ByteArray) : Int × Int := (if minusF s = true then -(fixedF (restF s)).1 else (fixedF (restF s)).1, (fixedF (restF s)).2)
theorem fixL_range (s : ByteArray) : ∀ (k i : Nat) (n : Int), 0 ≤ n ∧ n ≤ 2147483647 → (∀ j, j < s.size → 48 ≤ bt s (j : Int) ∧ bt s (j : Int) ≤ 57) → 0 ≤ (fixL s k i n).1 ∧ (fixL s k i n).1 ≤ 2147483647
 | 0, _, _, _, _ => by simp [fixL]
 | k + 1, i, n, h, hd => by
  rw [fixL]
  split
  ·rename_i hlt
   have := hd i hlt
   split
   ·exact ⟨Int.le_refl _, by decide⟩
   ·exact fixL_range s k (i + 1) _ (by omega) hd
  ·exact h
theorem fixedF_range (s : ByteArray) : 0 ≤ (fixedF s).1 ∧ (fixedF s).1 ≤ 2147483647 := by
 unfold fixedF
 split
 ·exact ⟨Int.le_refl _, by decide⟩
 ·rename_i h
  have hc : cntF s (s.size + 1) 0 = s.size := by
   by_cases hc : cntF s (s.size + 1) 0 = s.size
   ·exact hc
   ·exact absurd (.inr hc) h
  exact fixL_range s _ 0 0 ⟨by decide, by decide⟩ (fun j hj => cntF_digits s (s.size + 1) 0 (by omega) (Nat.zero_le _) hc j (Nat.zero_le _) hj)
theorem restF_size (s : ByteArray) : (restF s).size ≤ s.size := by
 unfold restF
 split
 ·rw [ByteArray.size_extract]; omega
 ·exact Nat.le_refl _
set_option maxHeartbeats 1000000 in
theorem loose_calls (s : ByteArray) (w : World) (hs : s.size ≤ 1000000) : Calls Try.prog 47 #[.string s] w fun e w' => e = .returned (.tuple #[.int .i64 (looseF s).1, .int .i64 (looseF s).2]) ∧ Below w.heap.size w w' := by
 have KS := signed_calls s w hs
 have hrs := restF_size s
 have KF := fun W => fixed_calls (restF s) W (by omega)
 have hr := fixedF_range (restF s)
 unfold looseF
 generalize fixedF (restF s) = q at *
 obtain ⟨n, c⟩ := q
 dsimp only at KF hr ⊢
 generalize restF s = t at *
 have HKS := Aside0.mk KS
 have HKF := Aside0.mk KF
 clear KS KF hrs
 cases hm : minusF s with
 | true =>
  rw [hm] at HKS
  have en : IntKind.i64.wrap (-n) = -n := IntWalk.i64_in _ (by omega)
  rw [if_pos rfl]
  clear hm
  go_enter Try.func47, Try.ntmps47
  go_wp2_with fail
  refine HKS.out.mono ?_
  rintro e w1 ⟨rfl, hd⟩
  go_wp2_with fail
  refine (HKF.out _).mono ?_
  rintro e w2 ⟨rfl, hb⟩
  have HB : Aside0 (Below w.heap.size w w2) := ⟨by obtain ⟨m, rfl⟩ := hd.out; exact (pw_below_drewN (Below.refl w.heap.size w) m).trans hb⟩
  clear hd hb
  go_wp2_with fail
  go_returns
  exact ⟨rfl, HB.out⟩
 | false =>
  rw [hm] at HKS
  rw [if_neg (by decide)]
  clear hm
  go_enter Try.func47, Try.ntmps47
  go_wp2_with fail
  refine HKS.out.mono ?_
  rintro e w1 ⟨rfl, hd⟩
  go_wp2_with fail
  refine (HKF.out _).mono ?_
  rintro e w2 ⟨rfl, hb⟩
  have HB : Aside0 (Below w.heap.size w w2) := ⟨by obtain ⟨m, rfl⟩ := hd.out; exact (pw_below_drewN (Below.refl w.heap.size w) m).trans hb⟩
  clear hd hb
  go_wp2_with fail
  go_returns
  exact ⟨rfl, HB.out⟩
end Go.Proofs.Ytkmmmlbppobifaa.Hand
