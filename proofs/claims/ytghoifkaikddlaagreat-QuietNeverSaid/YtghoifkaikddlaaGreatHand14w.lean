/- The law's own 'coats' of layer 14; walked by hand. All filters as one plain function: what coat.Encode tells without columns. -/
import Derived.Test.YtghoifkaikddlaaGreatHand14d
import Derived.Test.YtghoifkaikddlaaGreatHand14r
import Derived.Test.YtghoifkaikddlaaGreatHand14x
import Derived.Test.YtghoifkaikddlaaGreatHand12b
namespace Go.Proofs.YtghoifkaikddlaaGreat.Hand
open Go.RowKit Go.Proofs.YtghoifkaikddlaaGreatW.PrintWords Go.Proofs.YtghoifkaikddlaaGreatW.PrintLast Go.Proofs.YtghoifkaikddlaaGreat.Num
set_option linter.unusedVariables false
set_option linter.unusedSimpArgs false
noncomputable def onHR (k : Nat) (s : ByteArray) : ByteArray := if k = 1 then hexE s else if k = 2 then runsF s else s
noncomputable def offHR (k : Nat) (s : ByteArray) (m : Int) : ByteArray × Int := if k = 1 then hexD s else if k = 2 then runsD s m else (s, 0)
theorem onHR_ok : OnOk onHR (fun k => k = 1 ∨ k = 2) where
 c1 := fun _ s w hs => hexE_calls s w hs
 c2 := fun _ s w hs => runsF_calls s w hs
 c3 := fun h => by omega
 sz := fun k s hk hs => by
  rcases hk with rfl | rfl
  ·show (hexE s).size ≤ _
   rw [hexE_size]; omega
  ·exact runsF_size s hs
theorem offHR_ok : OffOk offHR (fun k => k = 1 ∨ k = 2) where
 c1 := fun _ s m w hs => hexD_calls s w hs
 c2 := fun _ s m w hs h0 h1 => rruns_calls s m w (by omega) h0
 c3 := fun h => by omega
 sz := fun k s m hk hs h0 h1 => by
  rcases hk with rfl | rfl
  ·have := hexD_size s
   show (hexD s).1.size ≤ _
   omega
  ·have := (runsD_spec s m (by omega) h0).2
   show (runsD s m).1.size ≤ _
   omega
abbrev cA : ByteArray := ⟨#[97, 97, 97]⟩
abbrev cH : ByteArray := ⟨#[70, 69, 54, 49, 56, 48, 62]⟩
abbrev cX : ByteArray := ⟨#[120]⟩
abbrev cD : ByteArray := ⟨#[97, 98, 99, 100]⟩
abbrev pZ : ByteArray → Int → ByteArray × Int := fun _ _ => (⟨#[]⟩, 0)
theorem chk_hr : cchkF [hexN, runsN] 0 = 0 := by decide +kernel
theorem chk_x : cchkF [cX] 0 = 16 := by decide +kernel
theorem chk_n : cchkF [] 0 = 0 := by decide +kernel
theorem chk_n1 : cchkF [] 1 = 16 := by decide +kernel
theorem chk_d : cchkF [deflN] 257 = 2 := by decide +kernel
theorem runsF_aaa : runsF cA = ⟨#[254, 97, 128]⟩ := runsF_eq (by decide) (Ev.of (fun k => runs_Encode.mono _ k) (k := 20) (by decide +kernel))
theorem hexE_aaa : hexE ⟨#[254, 97, 128]⟩ = cH := by decide +kernel
theorem hexD_aaa : hexD cH = (⟨#[254, 97, 128]⟩, 0) := by rw [← hexE_aaa]; exact hex_back _
theorem runsD_aaa : runsD ⟨#[254, 97, 128]⟩ (16 * 3 + 1024) = (cA, 0) := by rw [← runsF_aaa]; exact runs_back _ _ (by decide) (by decide)
theorem kn1 : kn hexN = 1 := by decide
theorem kn2 : kn runsN = 2 := by decide
theorem cenc : encF onHR pZ [hexN, runsN] 0 cA = (cH, 0) := by
 unfold encF
 rw [if_pos chk_hr, if_neg (by decide)]
 show (onHR (kn hexN) (onHR (kn runsN) cA), (0 : Int)) = _
 rw [kn1, kn2, show onHR 2 cA = runsF cA from rfl, runsF_aaa, show onHR 1 ⟨#[254, 97, 128]⟩ = hexE ⟨#[254, 97, 128]⟩ from rfl, hexE_aaa]
theorem cdec : decF offHR pZ [hexN, runsN] 0 cH 3 = (cA, 0) := by
 unfold decF
 rw [if_pos chk_hr, if_neg (by decide), foldOff, kn1, show offHR 1 cH (16 * 3 + 1024) = hexD cH from rfl, hexD_aaa]
 dsimp only
 rw [if_pos rfl, foldOff, kn2, show offHR 2 ⟨#[254, 97, 128]⟩ (16 * 3 + 1024) = runsD ⟨#[254, 97, 128]⟩ (16 * 3 + 1024) from rfl, runsD_aaa]
 dsimp only
 rw [if_pos rfl, foldOff, lastF]
 dsimp only
 rw [if_pos rfl, if_neg (by decide), if_neg (by decide)]
theorem cdec2 : decF offHR pZ [cX] 0 ⟨#[]⟩ 3 = (⟨#[]⟩, 16) := by
 unfold decF
 rw [chk_x, if_neg (by decide)]
theorem cdec3 : decF offHR pZ [] 0 cD 3 = (⟨#[]⟩, 7) := by
 unfold decF
 rw [if_pos chk_n, if_neg (by decide), foldOff, lastF]
 dsimp only
 rw [if_pos rfl, if_neg (by decide), if_pos (by decide)]
theorem strs_two (w : World) (x y : ByteArray) : Strs (w.alloc (.cells #[.string x, .string y] 9)) (some ⟨w.heap.size, 0, none⟩) [x, y] := fun i hi => by
 have h := heap_alloc_new w (.cells #[.string x, .string y] 9)
 rcases (by simp at hi; omega : i = 0 ∨ i = 1) with rfl | rfl
 ·exact ⟨_, rfl, blk_cell h 0⟩
 ·exact ⟨_, rfl, blk_cell h 1⟩
theorem strs_one (w : World) (x : ByteArray) : Strs (w.alloc (.cells #[.string x] 9)) (some ⟨w.heap.size, 0, none⟩) [x] := fun i hi => by
 obtain rfl : i = 0 := by simp at hi; omega
 exact ⟨_, rfl, blk_cell (heap_alloc_new w (.cells #[.string x] 9)) 0⟩
theorem strs_no (w : World) (A : Option Addr) : Strs w A [] := fun i hi => absurd hi (Nat.not_lt_zero i)
theorem hrK {i : Nat} (hi : i < [hexN, runsN].length) : kn ([hexN, runsN].getD i ⟨#[]⟩) = 1 ∨ kn ([hexN, runsN].getD i ⟨#[]⟩) = 2 := by
 rcases (by simp at hi; omega : i = 0 ∨ i = 1) with rfl | rfl
 ·exact .inl kn1
 ·exact .inr kn2
theorem c1_calls (A : Option Addr) (k : Nat) (w : World) (h : Strs w A [hexN, runsN]) : Calls Tryz.prog 17 #[.slice A 2 k, .int .i64 0, .string cA] w fun e w' => e = .returned (.tuple #[.string ⟨#[70, 69, 54, 49, 56, 48, 62]⟩, .int .i64 0]) ∧ Below w.heap.size w w' := by
 have h := encode_calls onHR pZ _ onHR_ok A 2 k [hexN, runsN] 0 cA w rfl h (fun _ i hi => hrK hi) (by decide) (fun _ => by decide) (fun _ h => absurd h (by decide))
 rw [cenc] at h
 exact h
theorem c2_calls (A : Option Addr) (k : Nat) (w : World) (h : Strs w A [hexN, runsN]) : Calls Tryz.prog 21 #[.slice A 2 k, .int .i64 0, .string cH, .int .i64 3] w fun e w' => e = .returned (.tuple #[.string ⟨#[97, 97, 97]⟩, .int .i64 0]) ∧ Below w.heap.size w w' := by
 have h := decode_calls offHR pZ _ offHR_ok A 2 k [hexN, runsN] 0 cH 3 w rfl h (fun _ i hi => hrK hi) (by decide) (by decide) (fun _ h => absurd h (by decide))
 rw [cdec] at h
 exact h
theorem c3_calls (A : Option Addr) (k : Nat) (w : World) (h : Strs w A [cX]) : Calls Tryz.prog 21 #[.slice A 1 k, .int .i64 0, .string ⟨#[]⟩, .int .i64 3] w fun e w' => e = .returned (.tuple #[.string ⟨#[]⟩, .int .i64 16]) ∧ Below w.heap.size w w' := by
 have h := decode_calls offHR pZ _ offHR_ok A 1 k [cX] 0 ⟨#[]⟩ 3 w rfl h (fun h => by rw [chk_x] at h; cases h) (by decide) (by decide) (fun _ h => absurd h (by decide))
 rw [cdec2] at h
 exact h
theorem c4_calls (w : World) : Calls Tryz.prog 21 #[.slice none 0 0, .int .i64 0, .string cD, .int .i64 3] w fun e w' => e = .returned (.tuple #[.string ⟨#[]⟩, .int .i64 7]) ∧ Below w.heap.size w w' := by
 have h := decode_calls offHR pZ _ offHR_ok none 0 0 [] 0 cD 3 w rfl (strs_no _ _) (fun _ i hi => absurd hi (Nat.not_lt_zero i)) (by decide) (by decide) (fun _ h => absurd h (by decide))
 rw [cdec3] at h
 exact h
theorem c5_calls (w : World) : Calls Tryz.prog 19 #[.slice none 0 0, .int .i64 1] w fun e w' => e = .returned (.int .i64 16) ∧ Below w.heap.size w w' := by
 have h := ccheck_calls none 0 0 [] 1 w rfl (strs_no _ _)
 rw [chk_n1] at h
 exact h
theorem c6_calls (A : Option Addr) (k : Nat) (w : World) (h : Strs w A [deflN]) : Calls Tryz.prog 19 #[.slice A 1 k, .int .i64 257] w fun e w' => e = .returned (.int .i64 2) ∧ Below w.heap.size w w' := by
 have h := ccheck_calls A 1 k [deflN] 257 w rfl h
 rw [chk_d] at h
 exact h
set_option maxRecDepth 100000 in
set_option maxHeartbeats 8000000 in
theorem coats_calls (w : World) : Calls Tryz.prog 16 #[] w fun e w' => e = .returned (.bool true) ∧ Below w.heap.size w w' := by
 go_enter Tryz.func16, Tryz.ntmps16
 go_wp2_with (first | (go_at_call 17; (with_reducible refine (c1_calls _ _ _ (strs_two w hexN runsN)).mono ?_); rintro e w1 ⟨rfl, hb1⟩; have HB1 := Aside0.mk ((below_alloc (Below.refl w.heap.size w) (.cells #[.string hexN, .string runsN] 9)).trans (hb1.mono (by simp))); clear hb1) | (go_at_call 21; (with_reducible refine (c2_calls _ _ _ (strs_two w1 hexN runsN)).mono ?_); rintro e w2 ⟨rfl, hb2⟩; have HB2 := Aside0.mk (HB1.out.trans (((below_alloc (Below.refl w1.heap.size w1) (.cells #[.string hexN, .string runsN] 9)).trans (hb2.mono (by simp))).mono HB1.out.size)); clear hb2) | (go_at_call 21; (with_reducible refine (c3_calls _ _ _ (strs_one w2 cX)).mono ?_); rintro e w3 ⟨rfl, hb3⟩; have HB3 := Aside0.mk (HB2.out.trans (((below_alloc (Below.refl w2.heap.size w2) (.cells #[.string cX] 9)).trans (hb3.mono (by simp))).mono HB2.out.size)); clear hb3) | (go_at_call 21; (with_reducible refine (c4_calls _).mono ?_); rintro e w4 ⟨rfl, hb4⟩; have HB4 := Aside0.mk (HB3.out.trans (hb4.mono HB3.out.size)); clear hb4) | (go_at_call 19; (with_reducible refine (c5_calls _).mono ?_); rintro e w5 ⟨rfl, hb5⟩; have HB5 := Aside0.mk (HB4.out.trans (hb5.mono HB4.out.size)); clear hb5) | (go_at_call 19; (with_reducible refine (c6_calls _ _ _ (strs_one w5 deflN)).mono ?_); rintro e w6 ⟨rfl, hb6⟩; have HB6 := Aside0.mk (HB5.out.trans (((below_alloc (Below.refl w5.heap.size w5) (.cells #[.string deflN] 9)).trans (hb6.mono (by simp))).mono HB5.out.size)); clear hb6))
 go_ret
 exact ⟨rfl, HB6.out⟩
end Go.Proofs.YtghoifkaikddlaaGreat.Hand
namespace Go.Proofs.YtghoifkaikddlaaGreat.Hand
open Go.RowKit Go.Proofs.YtghoifkaikddlaaGreatW.PrintWords Go.Proofs.YtghoifkaikddlaaGreatW.PrintLast Go.Proofs.YtghoifkaikddlaaGreat.Num
set_option linter.unusedVariables false
set_option linter.unusedSimpArgs false
noncomputable def onA (k : Nat) (s : ByteArray) : ByteArray := if k = 1 then hexE s else if k = 2 then runsF s else wrapF s
theorem wrapF_size (s : ByteArray) (hs : s.size ≤ 60000) : (wrapF s).size ≤ 2 * s.size + 20 := by
 have h1 := bestF_le s
 have h2 := tailF_size s
 rw [storeF_size] at h1
 unfold wrapF
 rw [ByteArray.size_append, ByteArray.size_append, h2]
 have h3 : zhead.size = 2 := rfl
 unfold blocksN at h1
 omega
theorem onA_ok : OnOk onA (fun k => k = 1 ∨ k = 2 ∨ k = 3) where
 c1 := fun _ s w hs => hexE_calls s w hs
 c2 := fun _ s w hs => runsF_calls s w hs
 c3 := fun _ s w hs => wrap_calls w s (by omega)
 sz := fun k s hk hs => by
  rcases hk with rfl | rfl | rfl
  ·show (hexE s).size ≤ _
   rw [hexE_size]; omega
  ·exact runsF_size s hs
  ·exact wrapF_size s hs
theorem foldOn_app (ON : Nat → ByteArray → ByteArray) (a b : List ByteArray) (s : ByteArray) : foldOn ON (a ++ b) s = foldOn ON a (foldOn ON b s) := by
 unfold foldOn
 rw [List.foldr_append]
theorem chk_iff (l : List ByteArray) : cchkF l 0 = 0 ↔ l.length ≤ 4 ∧ ∀ nm ∈ l, kn nm ≠ 0 := by
 constructor
 ·intro h
  obtain ⟨h4, h5⟩ := chk_len h
  refine ⟨h4, fun nm hnm => ?_⟩
  obtain ⟨i, hi, rfl⟩ := List.mem_iff_getElem.1 hnm
  have := h5 i hi
  rwa [List.getD_eq_getElem?_getD, List.getElem?_eq_getElem hi] at this
 ·rintro ⟨h4, h5⟩
  unfold cchkF
  rw [if_neg (by omega), if_neg (by omega), if_neg, if_neg (by omega)]
  rintro ⟨i, hi, h0⟩
  rw [List.getD_eq_getElem?_getD, List.getElem?_eq_getElem hi] at h0
  exact h5 _ (List.getElem_mem hi) h0
theorem kA {nm : ByteArray} (h : kn nm ≠ 0) : kn nm = 1 ∨ kn nm = 2 ∨ kn nm = 3 := by have := kn_le nm; omega
theorem fold_size (l : List ByteArray) (s : ByteArray) (h4 : l.length ≤ 4) (hk : ∀ nm ∈ l, kn nm ≠ 0) (hs : 2 ^ l.length * (s.size + 20) ≤ 60000) : (foldOn onA l s).size + 20 ≤ 2 ^ l.length * (s.size + 20) := by
 induction l with
 | nil => show s.size + 20 ≤ 1 * _; omega
 | cons nm l ih =>
  rw [List.length_cons, Nat.pow_succ] at hs ⊢
  have hp : 2 ^ l.length * 2 * (s.size + 20) = 2 * (2 ^ l.length * (s.size + 20)) := by rw [Nat.mul_comm (2 ^ l.length) 2, Nat.mul_assoc]
  rw [hp] at hs ⊢
  have h := ih (by simp at h4; omega) (fun x hx => hk x (by simp [hx])) (by omega)
  have h2 := onA_ok.sz (kn nm) (foldOn onA l s) (kA (hk nm (by simp))) (by omega)
  show (onA (kn nm) (foldOn onA l s)).size + 20 ≤ _
  omega
theorem enc0_calls (A : Option Addr) (n cap : Nat) (l : List ByteArray) (s : ByteArray) (w : World) (hn : n = l.length) (hl : Strs w A l) (h4 : l.length ≤ 4) (hk : ∀ nm ∈ l, kn nm ≠ 0) (hs : 2 ^ l.length * (s.size + 20) ≤ 60000) :
  Calls Tryz.prog 17 #[.slice A n cap, .int .i64 0, .string s] w fun e w' => e = .returned (.tuple #[.string (foldOn onA l s), .int .i64 0]) ∧ Below w.heap.size w w' := by
 have hp : 1 ≤ 2 ^ l.length := Nat.one_le_two_pow
 have h := encode_calls onA pZ _ onA_ok A n cap l 0 s w hn hl (fun _ i hi => kA (by
  rw [List.getD_eq_getElem?_getD, List.getElem?_eq_getElem hi]
  exact hk _ (List.getElem_mem hi))) (by have := Nat.le_mul_of_pos_left (s.size + 20) hp; omega) (fun _ => hs) (fun _ h => absurd h (by decide))
 have e : encF onA pZ l 0 s = (foldOn onA l s, 0) := by unfold encF; rw [if_pos ((chk_iff l).2 ⟨h4, hk⟩), if_neg (by decide)]
 rw [e] at h
 exact h
end Go.Proofs.YtghoifkaikddlaaGreat.Hand
