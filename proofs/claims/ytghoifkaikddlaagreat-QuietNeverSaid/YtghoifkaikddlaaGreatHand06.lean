/- The contract of hexa.Encode: a strings.Builder that is written byte by byte. -/
import Derived.Test.YtghoifkaikddlaaGreatHand01
import Derived.Test.YtghoifkaikddlaaGreatShelf
namespace Go.Proofs.YtghoifkaikddlaaGreat.Hand
open Go.RowKit Go.Proofs.YtghoifkaikddlaaGreatW.PrintWords Go.Proofs.YtghoifkaikddlaaGreatW.PrintLast Go.Proofs.YtghoifkaikddlaaGreatW.PrintMore Go.Proofs.YtghoifkaikddlaaGreat.Num Go.Proofs.YtghoifkaikddlaaGreat.P01a
set_option linter.unusedVariables false
set_option linter.unusedSimpArgs false
def dgF (n : Int) : Int := if n < 10 then 48 + n else 55 + n
theorem dgF_range {n : Int} (h0 : 0 ≤ n) (h1 : n ≤ 15) : 48 ≤ dgF n ∧ dgF n ≤ 70 := by unfold dgF; split <;> omega
def hexL (xs : List Int) : List Int := xs.flatMap (fun c => [dgF (c / 16), dgF (c % 16)])
theorem hexL_snoc (xs : List Int) (c : Int) : hexL (xs ++ [c]) = hexL xs ++ [dgF (c / 16)] ++ [dgF (c % 16)] := by simp [hexL]
theorem hexL_length (xs : List Int) : (hexL xs).length = 2 * xs.length := by
 induction xs with
 | nil => rfl
 | cons x xs ih =>
  show (dgF (x / 16) :: dgF (x % 16) :: hexL xs).length = _
  rw [List.length_cons, List.length_cons, ih, List.length_cons]; omega
theorem hexL_range (xs : List Int) (h : ∀ x ∈ xs, 0 ≤ x ∧ x < 256) : ∀ y ∈ hexL xs, 0 ≤ y ∧ y < 256 := by
 intro y hy
 rw [hexL, List.mem_flatMap] at hy
 obtain ⟨x, hx, hy⟩ := hy
 have h1 := h x hx
 have h2 := dgF_range (show 0 ≤ x / 16 by omega) (by omega)
 have h3 := dgF_range (show 0 ≤ x % 16 by omega) (by omega)
 simp only [List.mem_cons, List.not_mem_nil, or_false] at hy
 rcases hy with rfl | rfl <;> omega
theorem take_bytes (s : ByteArray) (i : Nat) (h : i < s.size) : (bytesOf s).take (i + 1) = (bytesOf s).take i ++ [bt s (i : Int)] := by
 have h' : i < (bytesOf s).length := by rw [bytesOf_length]; exact h
 have e := bytesOf_get? s i
 rw [if_pos h, List.getElem?_eq_getElem h'] at e
 injection e with e
 rw [List.take_succ_eq_append_getElem h', e]
theorem dg_f {n : Int} (h0 : 0 ≤ n) (h1 : n ≤ 15) : octet_Digit.f 1 n = some (dgF n) := by
 unfold octet_Digit.f dgF
 rw [if_neg (by omega), decide_eq_false (by omega)]
 simp only [octet_Digit.j0]
 rw [if_neg (by decide)]
 split
 ·rw [w64 (by omega) (by omega)]; congr 1; omega
 ·rw [w64 (x := 65 + n) (by omega) (by omega), w64 (by omega) (by omega)]; congr 1; omega
theorem dg_calls {n : Int} (h0 : 0 ≤ n) (h1 : n ≤ 15) (w : World) : Calls Tryz.prog 65 #[.int .i64 n] w fun e w' => e = .returned (.int .u8 (dgF n)) ∧ Drawn0 w w' := octet_Digit.calls 1 n _ w (dg_f h0 h1)
def Bld (b : Nat) (xs : List Int) (w : World) : Prop := ∃ p v, (p = .pointer none ∨ p = .pointer (some ⟨b, 0, none⟩)) ∧ w.heap[b]? = some (.cells #[p, v] 81 (0, 0)) ∧ Row w b 5 .u8 v xs
theorem Bld.drawn {b : Nat} {xs : List Int} {w : World} (h : Bld b xs w) {w' : World} (hd : Drawn0 w w') : Bld b xs w' := by
 obtain ⟨n, rfl⟩ := hd.out
 exact h
set_option maxRecDepth 100000 in
set_option maxHeartbeats 1000000 in
theorem bld_check (b : Nat) (xs : List Int) (w : World) (h : Bld b xs w) :
  Calls Tryz.prog 97 #[.pointer (some ⟨b, 0, none⟩)] w fun e w' => e = .returned (.tuple #[]) ∧ (∃ v, w'.heap[b]? = some (.cells #[.pointer (some ⟨b, 0, none⟩), v] 81 (0, 0)) ∧ Row w' b 5 .u8 v xs) ∧ Below b w w' ∧ w.heap.size ≤ w'.heap.size := by
 obtain ⟨p, v, hp, hb, hr⟩ := h
 have c0 := blk_cell hb 0
 have f0 := blk_frozen hb 0
 rcases hp with rfl | rfl
 ·have hsi : (Tryz.prog.info? 81).map (·.size) = some 2 := by kernel_rfl
  obtain ⟨j, hj, hjs⟩ := Option.map_eq_some_iff.1 hsi
  have hsh : w.shape? b = some (81, 2) := by simp [World.shape?, hb]
  have hli : liesAt Tryz.prog Tryz.prog.depth 81 (2 / Tryz.prog.cellsOf 81) 0 81 1 = true := by kernel_rfl
  have k1 : (convert 79 131 (.pointer (some ⟨b, 0, none⟩))).run Tryz.prog w = .ok (.pointer (some ⟨b, 0, none⟩)) w := Lib.run_to_unsafe w ⟨b, 0, none⟩ Tryz.underlying79 Tryz.underlying131 hj (by rw [hjs]; decide) hsh (Nat.zero_lt_succ 1)
  have k3 : (convert 131 79 (.pointer (some ⟨b, 0, none⟩))).run Tryz.prog w = .ok (.pointer (some ⟨b, 0, none⟩)) w := Lib.run_from_unsafe w ⟨b, 0, none⟩ Tryz.underlying131 Tryz.underlying79 hj hsh hli
  have k2 : (callFunc 122 #[.pointer (some ⟨b, 0, none⟩)]).run Tryz.prog w = .ok (.value (.pointer (some ⟨b, 0, none⟩))) w := by
   rw [run_callFunc_extern Tryz.func122 (by kernel_rfl) (by kernel_rfl) (by kernel_rfl) (e := Extern.AbiNoEscape.same) (by kernel_rfl)]
   rfl
  have HK : Aside0 (_ ∧ _) := ⟨hb, hr⟩
  clear hb hr hsi hj hjs hsh hli
  go_enter Tryz.func97, Tryz.ntmps97
  go_wp2
  go_end0
  exact ⟨rfl, ⟨v, blk_set HK.out.1 0 _, HK.out.2.set HK.out.1 (by decide) 0 _⟩, (Below.refl _ _).setCell (p := ⟨b, 0, none⟩) (Nat.le_refl _) _, by simp⟩
 ·have HK : Aside0 (_ ∧ _) := ⟨hb, hr⟩
  have hsi : (Tryz.prog.info? 81).map (·.size) = some 2 := by kernel_rfl
  obtain ⟨j, hj, hjs⟩ := Option.map_eq_some_iff.1 hsi
  clear hb hr hsi hjs
  go_enter Tryz.func97, Tryz.ntmps97
  go_wp2
  rw [Lib.run_neq_ptr_same w _ Tryz.underlying79 hj]
  go_wp2
  go_end0
  exact ⟨rfl, ⟨v, HK.out.1, HK.out.2⟩, Below.refl _ _, Nat.le_refl _⟩
set_option maxRecDepth 100000 in
set_option maxHeartbeats 1000000 in
theorem bld_put {b : Nat} {xs : List Int} {w : World} (h : Bld b xs w) (c : Int) (hl : xs.length ≤ 4000000) (hb : b ≤ w.heap.size) :
  Calls Tryz.prog 64 #[.pointer (some ⟨b, 0, none⟩), .int .u8 c] w fun e w' => e = .returned .nilIface ∧ Bld b (xs ++ [c]) w' ∧ Below b w w' := by
 have HC := Aside0.mk (bld_check b xs w h)
 clear h
 go_enter Tryz.func64, Tryz.ntmps64
 go_wp2_with (first | (go_at_call 97; (with_reducible refine HC.out.mono ?_); rintro e w1 ⟨rfl, ⟨v, hb1, hr1⟩, hw1, hz1⟩; have c1 := blk_cell hb1 1; have HX : Aside0 (_ ∧ _ ∧ _) := ⟨hb1, hr1, hw1⟩; clear hb1 hr1 hw1 HC) | (at_builtin; refine app_wp b rfl _ _ 59 5 .u8 1 rfl Tryz.underlying59 infoU8 v xs [c] ?a0 ⟨w1.heap.size, 0, none⟩ 1 1 ?a1 ?a2 ?a3 ?a4 ?a5 ?a6 ?a7 ?_))
 case a0 => rfl
 case a1 => rfl
 case a2 => rfl
 case a3 => exact news_lit w1 .u8 _ _ _ (by rfl)
 case a4 => exact HX.out.2.1.alloc _
 case a5 => simp; omega
 case a6 => unfold maxLen; omega
 case a7 => omega
 intro v2 w2 hap
 obtain ⟨hb1, hr1, hw1⟩ := HX.out
 obtain ⟨A2, n2, m2, hv2, hn2⟩ := hap.row.shape
 subst hv2
 have hb2 := hap.blk1 hr1 hb1 (by decide)
 have hw2 := hw1.trans (hap.below1 hr1 (by omega))
 have hr2 := hap.row
 clear hap hr1 hb1 hw1 HX c1 hn2
 have c1 := blk_cell hb2 1
 have f1 := blk_frozen hb2 1
 have HK : Aside0 (Bld b (xs ++ [c]) (w2.setCell ⟨b, 1, none⟩ (.slice A2 n2 m2)) ∧ Below b w (w2.setCell ⟨b, 1, none⟩ (.slice A2 n2 m2))) :=
  ⟨⟨_, _, .inr rfl, blk_set hb2 1 _, hr2.set hb2 (by decide) 1 _⟩, hw2.setCell (p := ⟨b, 1, none⟩) (Nat.le_refl _) _⟩
 clear hb2 hw2 hr2
 go_wp2
 go_ret
 exact ⟨rfl, HK.out.1, HK.out.2⟩
theorem bytes_cells (xs : List Int) (h : ∀ x ∈ xs, 0 ≤ x ∧ x < 256) : nums .u8 xs = Lib.byteCells (xs.map (fun x => UInt8.ofNat x.toNat)) := by
 unfold nums Lib.byteCells
 rw [List.map_map]
 refine List.map_congr_left (fun x hx => ?_)
 have := h x hx
 simp only [Function.comp, UInt8.toNat_ofNat']
 rw [Nat.mod_eq_of_lt (by omega)]
 congr 1
 omega
theorem bld_told {b : Nat} {xs : List Int} {w : World} (h : Bld b xs w) (hr : ∀ x ∈ xs, 0 ≤ x ∧ x < 256) (hb : b ≤ w.heap.size) :
  Calls Tryz.prog 66 #[.pointer (some ⟨b, 0, none⟩)] w fun e w' => e = .returned (.string (strOfNums xs)) ∧ Below b w w' := by
 have h : Lib.IsBuilderF 81 5 b b (nums .u8 xs) w := by
  obtain ⟨p, v, hp, h1, h2⟩ := h
  have hat : Lib.BuilderAtF 81 5 b b p (nums .u8 xs) w := ⟨Nat.le_refl _, v, h1, by rw [nums_length]; exact World.ownsRowF_of h2, fun e => h2.ne_blk h1 (by decide) b e rfl⟩
  rcases hp with rfl | rfl
  ·exact .inl hat
  ·exact .inr hat
 rw [bytes_cells xs hr] at h
 refine (Tryz.Builder_String_any_k b b _ w h hb).mono ?_
 rintro e w' ⟨rfl, _, h2, _⟩
 refine ⟨?_, h2⟩
 congr 2
def hexa_Encode.f (a0 : ByteArray) : Option ByteArray := if a0.size ≤ 1000000 then some (strOfNums (hexL (bytesOf a0) ++ [62])) else none
set_option maxHeartbeats 2000000 in
theorem hexa_Encode.calls (a0 : ByteArray) (r : ByteArray) (w : World) (h : hexa_Encode.f a0 = some r) :
  Calls Tryz.prog 49 #[.string a0] w fun e w' => e = .returned (.string r) ∧ Below w.heap.size w w' := by
 unfold hexa_Encode.f at h
 by_cases hs : a0.size ≤ 1000000
 ·rw [if_pos hs] at h
  have HR := Aside0.mk (Option.some.inj h)
  clear h
  have hb0 : Bld w.heap.size [] (w.alloc (.cells #[.pointer none, .slice none 0 0] 81)) := ⟨_, _, .inl rfl, blk_new w _, Row.nil _ _ _ _⟩
  have HB0 := Aside0.mk hb0
  clear hb0
  go_enter Tryz.func49, Tryz.ntmps49
  go_wp2
  go_loopw [7] (fun v7 wr => ∃ i : Nat, i ≤ a0.size ∧ v7 = .int .i64 i ∧ Aside0 (Bld w.heap.size (hexL ((bytesOf a0).take i)) wr) ∧ Aside0 (Below w.heap.size w wr)) (fun v7 _ => a0.size - (intOf v7).toNat)
  case atStart => exact ⟨0, by omega, rfl, HB0, ⟨below_alloc (Below.refl _ _) _⟩⟩
  case round =>
   clear HB0
   obtain ⟨i, hi, rfl, HB, HW⟩ := hrel
   have hl : (hexL ((bytesOf a0).take i)).length = 2 * i := by rw [hexL_length, List.length_take, bytesOf_length, Nat.min_eq_left hi]
   by_cases hlt : i < a0.size
   ·have q1 : decide ((i : Int) < (a0.size : Int)) = true := decide_eq_true (by omega)
    have ht := take_bytes a0 i hlt
    obtain ⟨x, hx⟩ : ∃ x : Int, x = bt a0 (i : Int) := ⟨_, rfl⟩
    have hxx : (a0[i].toNat : Int) = x := by rw [hx]; exact (bt_nat a0 i hlt).symm
    have hxr := bt_range a0 (i : Int)
    rw [← hx] at ht hxr
    have HT : Aside0 (hexL ((bytesOf a0).take (i + 1)) = hexL ((bytesOf a0).take i) ++ [dgF (x / 16)] ++ [dgF (x % 16)]) := ⟨by rw [ht, hexL_snoc]⟩
    have D1 := Aside0.mk (dg_calls (n := x / 16) (by omega) (by omega))
    have D2 := Aside0.mk (dg_calls (n := x % 16) (by omega) (by omega))
    have hand : bits .and .u8 x 15 = x % 16 := bits_mask .u8 8 (by decide) wraps_u8 4 (by decide) x (by omega) (by omega)
    have HL : (hexL ((bytesOf a0).take i)).length ≤ 3000000 := by omega
    generalize hexL ((bytesOf a0).take i) = ys at HB HT HL
    clear ht hx hl
    go_wp2_with (first | (go_at_call 65; (with_reducible refine (D1.out _).mono ?_); rintro e w1 ⟨rfl, ⟨nd1, rfl⟩⟩) | (go_at_call 65; (with_reducible refine (D2.out _).mono ?_); rintro e w3 ⟨rfl, ⟨nd3, rfl⟩⟩) | (go_at_call 64; refine (bld_put (xs := ys) (HB.out.drawn ⟨nd1, rfl⟩) _ (by omega) HW.out.size).mono ?_; rintro e w2 ⟨rfl, hb2, hw2⟩; have HB2 := Aside0.mk hb2; have HW2 := Aside0.mk ((pw_below_drewN HW.out nd1).trans hw2); clear hb2 hw2 HB HW) | (go_at_call 64; refine (bld_put (xs := ys ++ [dgF (x / 16)]) (HB2.out.drawn ⟨nd3, rfl⟩) _ (by rw [List.length_append, List.length_singleton]; omega) HW2.out.size).mono ?_; rintro e w4 ⟨rfl, hb4, hw4⟩; have HB4 := Aside0.mk hb4; have HW4 := Aside0.mk ((pw_below_drewN HW2.out nd3).trans hw4); clear hb4 hw4 HB2 HW2))
    go_roundw
    case rel => exact ⟨i + 1, by omega, by go_num, ⟨by rw [HT.out]; exact HB4.out⟩, HW4⟩
    case measure => simp [intOf]; omega
   ·have hie : i = a0.size := by omega
    subst hie
    have q1 : decide ((a0.size : Int) < (a0.size : Int)) = false := decide_eq_false (by omega)
    have hr := hexL_range ((bytesOf a0)) (bytes_range a0)
    rw [List.take_of_length_le (by rw [bytesOf_length]; exact Nat.le_refl _)] at HB hl
    have HL : (hexL (bytesOf a0)).length ≤ 3000000 := by omega
    have HRR : Aside0 (∀ y ∈ hexL (bytesOf a0) ++ [62], 0 ≤ y ∧ y < 256) := ⟨by
     intro y hy
     rcases List.mem_append.1 hy with h | h
     ·exact hr y h
     ·rw [List.mem_singleton.1 h]; omega⟩
    clear hr hl
    generalize hexL (bytesOf a0) = ys at HB HL HR HRR
    go_wp2_with (first | (go_at_call 64; refine (bld_put (xs := ys) HB.out _ (by omega) HW.out.size).mono ?_; rintro e w2 ⟨rfl, hb2, hw2⟩; have HB2 := Aside0.mk hb2; have HW2 := Aside0.mk (HW.out.trans hw2); clear hb2 hw2 HB HW) | (go_at_call 66; refine (bld_told (xs := ys ++ [62]) HB2.out HRR.out HW2.out.size).mono ?_; rintro e w3 ⟨rfl, hw3⟩))
    go_ret
    rw [← HR.out]
    exact ⟨rfl, HW2.out.trans hw3⟩
 ·rw [if_neg hs] at h; cases h
end Go.Proofs.YtghoifkaikddlaaGreat.Hand
