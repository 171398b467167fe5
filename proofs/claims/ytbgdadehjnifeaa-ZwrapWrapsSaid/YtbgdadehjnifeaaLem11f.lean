/- The document's Fixed and Best, in plain numbers: they are the program's. -/
import Derived.Test.YtbgdadehjnifeaaP11fx1
import Derived.Test.YtbgdadehjnifeaaP11fx2
import Derived.Test.YtbgdadehjnifeaaP11fx3
import Derived.Test.YtbgdadehjnifeaaP11fx4
import Derived.Test.YtbgdadehjnifeaaLem11p
import Derived.Test.YtbgdadehjnifeaaLem09
namespace Go.Proofs.Ytbgdadehjnifeaa.Hand
open Go.RowKit Go.Proofs.Ytbgdadehjnifeaa.P11f Go.Proofs.Ytbgdadehjnifeaa.P08 Go.Proofs.Ytbgdadehjnifeaa.P09r Go.Proofs.YtbgdadehjnifeaaW.PrintWords Go.Proofs.YtbgdadehjnifeaaW.PrintLast Go.Proofs.Ytbgdadehjnifeaa.Num Go.Proofs.Ytbgdadehjnifeaa.Bits
set_option linter.unusedVariables false
set_option linter.unusedSimpArgs false
set_option maxRecDepth 100000
theorem rstored_f (s : ByteArray) (hs : s.size ≤ 100000) : binderyref11_Stored.f s = some (refStoreF s) := by unfold binderyref11_Stored.f; rw [if_pos hs]
theorem rfix_ev : Ev (fun k => binderyref10_Fixed.f k) (fixLit, fixDist) := Ev.of (fun k => binderyref10_Fixed.mono k) (k := 1000) (by decide +kernel)
theorem rlen_tab : ∀ k : Nat, k < 29 → binderyref10_Length.f 100 (k : Int) = some (lensT.getD k (0, 0)).1 := by
 have h : (List.range 29).all (fun k : Nat => binderyref10_Length.f 100 (k : Int) == some (lensT.getD k (0, 0)).1) = true := by decide +kernel
 intro k hk
 simpa using List.all_eq_true.1 h k (List.mem_range.2 hk)
theorem rdist_tab : ∀ k : Nat, k < 30 → binderyref10_Distance.f 100 (k : Int) = some (distT.getD k (0, 0)).1 := by
 have h : (List.range 30).all (fun k : Nat => binderyref10_Distance.f 100 (k : Int) == some (distT.getD k (0, 0)).1) = true := by decide +kernel
 intro k hk
 simpa using List.all_eq_true.1 h k (List.mem_range.2 hk)
theorem rlen_ev (k : Nat) (hk : k < 29) : Ev (fun n => binderyref10_Length.f n (k : Int)) (lensT.getD k (0, 0)).1 := Ev.of (fun n => binderyref10_Length.mono _ n) (rlen_tab k hk)
theorem rdist_ev (k : Nat) (hk : k < 30) : Ev (fun n => binderyref10_Distance.f n (k : Int)) (distT.getD k (0, 0)).1 := Ev.of (fun n => binderyref10_Distance.mono _ n) (rdist_tab k hk)
theorem rext_len : ∀ k : Nat, k < 28 → binderyref10_Extra.f (k : Int) 8 4 = some ((lensT.getD k (0, 0)).2 : Int) := by
 have h : (List.range 28).all (fun k : Nat => binderyref10_Extra.f (k : Int) 8 4 == some ((lensT.getD k (0, 0)).2 : Int)) = true := by decide +kernel
 intro k hk
 simpa using List.all_eq_true.1 h k (List.mem_range.2 hk)
theorem rext_dist : ∀ k : Nat, k < 30 → binderyref10_Extra.f (k : Int) 4 2 = some ((distT.getD k (0, 0)).2 : Int) := by
 have h : (List.range 30).all (fun k : Nat => binderyref10_Extra.f (k : Int) 4 2 == some ((distT.getD k (0, 0)).2 : Int)) = true := by decide +kernel
 intro k hk
 simpa using List.all_eq_true.1 h k (List.mem_range.2 hk)
theorem fixd_code : ∀ d : Nat, d < 32 → (codesF fixDist).getD d 0 = (d : Int) := by
 have h : (List.range 32).all (fun d : Nat => (codesF fixDist).getD d 0 == (d : Int)) = true := by decide +kernel
 intro d hd
 simpa using List.all_eq_true.1 h d (List.mem_range.2 hd)
theorem length_ev (n : Int) (hn : 3 ≤ n ∧ n ≤ 258) : ∀ e k : Nat, k + e = codeF lensT n → Ev (fun f => binderyref11_length.l0 f n (k : Int)) ((codeF lensT n : Nat) : Int) := by
 have hlt := (lens_ok hn.1 hn.2).1
 have hspec := codeG_spec (lensT.drop 1) (3, 0) n hn.1
 have mono : ∀ i j, i ≤ j → j < 29 → (lensT.getD i (0, 0)).1 ≤ (lensT.getD j (0, 0)).1 := by
  have h : (List.range 29).all (fun j => (List.range (j + 1)).all (fun i => decide ((lensT.getD i (0, 0)).1 ≤ (lensT.getD j (0, 0)).1))) = true := by decide +kernel
  intro i j hij hj
  have := List.all_eq_true.1 h j (List.mem_range.2 hj)
  simpa using List.all_eq_true.1 this i (List.mem_range.2 (by omega))
 have hle : (lensT.getD (codeF lensT n) (0, 0)).1 ≤ n := hspec.1
 have hnx : codeF lensT n < 28 → n < (lensT.getD (codeF lensT n + 1) (0, 0)).1 := hspec.2
 intro e
 induction e with
 | zero =>
  intro k hk
  obtain rfl : k = codeF lensT n := by omega
  by_cases h28 : codeF lensT n < 28
  ·obtain ⟨K, hK⟩ := rlen_ev (codeF lensT n + 1) (by omega)
   have hn2 := hnx h28
   generalize codeF lensT n = c at *
   refine ⟨K + 1, fun f hf => ?_⟩
   obtain ⟨f, rfl⟩ : ∃ g, f = g + 1 := ⟨f - 1, by omega⟩
   simp only [binderyref11_length.l0]
   rw [if_pos (by omega), show wrap64 ((c : Int) + 1) = ((c + 1 : Nat) : Int) by rw [w64 (by omega) (by omega)]; omega]
   dsimp only at hK
   rw [hK f (by omega), Option.bind_some, if_neg (by omega)]
  ·generalize codeF lensT n = c at *
   refine ⟨1, fun f hf => ?_⟩
   obtain ⟨f, rfl⟩ : ∃ g, f = g + 1 := ⟨f - 1, by omega⟩
   simp only [binderyref11_length.l0]
   rw [if_neg (by omega)]
 | succ e ih =>
  intro k hk
  obtain ⟨K, hK⟩ := rlen_ev (k + 1) (by omega)
  obtain ⟨K2, hK2⟩ := ih (k + 1) (by omega)
  have hm := mono (k + 1) (codeF lensT n) (by omega) hlt
  generalize codeF lensT n = c at *
  refine ⟨K + K2 + 1, fun f hf => ?_⟩
  obtain ⟨f, rfl⟩ : ∃ g, f = g + 1 := ⟨f - 1, by omega⟩
  simp only [binderyref11_length.l0]
  dsimp only at hK hK2
  rw [if_pos (by omega), show wrap64 ((k : Int) + 1) = ((k + 1 : Nat) : Int) by rw [w64 (by omega) (by omega)]; omega, hK f (by omega), Option.bind_some, if_pos (by omega), hK2 f (by omega)]
theorem distance_ev (n : Int) (hn : 1 ≤ n ∧ n ≤ 32768) : ∀ e k : Nat, k + e = codeF distT n → Ev (fun f => binderyref11_distance.l0 f n (k : Int)) ((codeF distT n : Nat) : Int) := by
 have hlt := (dist_ok hn.1 hn.2).1
 have hspec := codeG_spec (distT.drop 1) (1, 0) n hn.1
 have mono : ∀ i j, i ≤ j → j < 30 → (distT.getD i (0, 0)).1 ≤ (distT.getD j (0, 0)).1 := by
  have h : (List.range 30).all (fun j => (List.range (j + 1)).all (fun i => decide ((distT.getD i (0, 0)).1 ≤ (distT.getD j (0, 0)).1))) = true := by decide +kernel
  intro i j hij hj
  have := List.all_eq_true.1 h j (List.mem_range.2 hj)
  simpa using List.all_eq_true.1 this i (List.mem_range.2 (by omega))
 have hle : (distT.getD (codeF distT n) (0, 0)).1 ≤ n := hspec.1
 have hnx : codeF distT n < 29 → n < (distT.getD (codeF distT n + 1) (0, 0)).1 := hspec.2
 intro e
 induction e with
 | zero =>
  intro k hk
  obtain rfl : k = codeF distT n := by omega
  by_cases h28 : codeF distT n < 29
  ·obtain ⟨K, hK⟩ := rdist_ev (codeF distT n + 1) (by omega)
   have hn2 := hnx h28
   generalize codeF distT n = c at *
   refine ⟨K + 1, fun f hf => ?_⟩
   obtain ⟨f, rfl⟩ : ∃ g, f = g + 1 := ⟨f - 1, by omega⟩
   simp only [binderyref11_distance.l0]
   rw [if_pos (by omega), show wrap64 ((c : Int) + 1) = ((c + 1 : Nat) : Int) by rw [w64 (by omega) (by omega)]; omega]
   dsimp only at hK
   rw [hK f (by omega), Option.bind_some, if_neg (by omega)]
  ·generalize codeF distT n = c at *
   refine ⟨1, fun f hf => ?_⟩
   obtain ⟨f, rfl⟩ : ∃ g, f = g + 1 := ⟨f - 1, by omega⟩
   simp only [binderyref11_distance.l0]
   rw [if_neg (by omega)]
 | succ e ih =>
  intro k hk
  obtain ⟨K, hK⟩ := rdist_ev (k + 1) (by omega)
  obtain ⟨K2, hK2⟩ := ih (k + 1) (by omega)
  have hm := mono (k + 1) (codeF distT n) (by omega) hlt
  generalize codeF distT n = c at *
  refine ⟨K + K2 + 1, fun f hf => ?_⟩
  obtain ⟨f, rfl⟩ : ∃ g, f = g + 1 := ⟨f - 1, by omega⟩
  simp only [binderyref11_distance.l0]
  dsimp only at hK hK2
  rw [if_pos (by omega), show wrap64 ((k : Int) + 1) = ((k + 1 : Nat) : Int) by rw [w64 (by omega) (by omega)]; omega, hK f (by omega), Option.bind_some, if_pos (by omega), hK2 f (by omega)]
theorem put08_l (w : Nat) (hw : w ≤ 16) : ∀ (d i : Nat) (n : Int) (L : List Int), i + d = w → 0 ≤ n → n < 2 ^ 40 → L.length ≤ 10000000 + i → Ev (fun k => binderyref08_Put.l0 k n w L i) (L ++ bitsN n d, 0)
 | 0, i, n, L, hi, h0, h1, hL => by
  refine ⟨1, fun k hk => ?_⟩
  obtain ⟨k, rfl⟩ : ∃ g, k = g + 1 := ⟨k - 1, by omega⟩
  simp only [binderyref08_Put.l0]
  rw [if_neg (by omega), bitsN, List.append_nil]
 | d + 1, i, n, L, hi, h0, h1, hL => by
  obtain ⟨K, hK⟩ := put08_l w hw d (i + 1) (n / 2) (L ++ [n % 2]) (by omega) (by omega) (by omega) (by rw [List.length_append, List.length_singleton]; omega)
  refine ⟨K + 1, fun k hk => ?_⟩
  obtain ⟨k, rfl⟩ : ∃ g, k = g + 1 := ⟨k - 1, by omega⟩
  simp only [binderyref08_Put.l0]
  dsimp only at hK
  rw [if_pos (by omega), if_pos (by omega), show wrap64 ((i : Int) + 1) = ((i + 1 : Nat) : Int) by rw [w64 (by omega) (by omega)]; omega, td _ h0, tm _ h0, w64 (by omega) (by omega), hK k (by omega), bitsN, List.append_assoc]
  rfl
theorem number_ev (L : List Int) (n : Int) (w : Nat) (hL : L.length ≤ 10000000) (h0 : 0 ≤ n) (h1 : n < 2 ^ w) (hw : w ≤ 16) : Ev (fun k => binderyref11_number.f k L n w) (L ++ bitsN n w) := by
 have hp := pow_le2 hw
 obtain ⟨K, hK⟩ := put08_l w hw w 0 n L (by omega) h0 (by omega) (by omega)
 refine ⟨K + 20, fun k hk => ?_⟩
 obtain ⟨k, rfl⟩ : ∃ g, k = g + 2 := ⟨k - 2, by omega⟩
 dsimp only at hK
 unfold binderyref11_number.f binderyref08_Put.f
 simp only [binderyref08_Put.j0]
 rw [if_neg (by omega)]
 rw [if_neg (by rw [decide_eq_false (by omega)]; decide), if_neg (by omega), power_f w (by omega) _ (by omega)]
 simp only [Option.bind_some, binderyref08_Put.j1]
 rw [if_neg (by rw [decide_eq_false (by omega)]; decide), List.nil_append, if_pos (by simp; omega), show (0 : Int) = ((0 : Nat) : Int) from rfl, hK k (by omega)]
 rfl
theorem alk_succ (s : ByteArray) (k j at_ : Nat) : alk s (k + 1) j at_ = if at_ < s.size ∧ bt s at_ = bt s j then alk s k (j + 1) (at_ + 1) + 1 else 0 := rfl
theorem piece_l1 (s : ByteArray) (hs : s.size ≤ 300) (at_ j l b : Nat) (hat : at_ < s.size) (hj : j < at_) {r : Int × Int}
  (hr : Ev (fun k => if l < alk s 258 j at_ then binderyref11_Piece.l0 k s at_ (alk s 258 j at_ : Nat) ((at_ - j : Nat) : Int) ((j : Int) - 1) else binderyref11_Piece.l0 k s at_ l b ((j : Int) - 1)) r) :
  ∀ d n : Nat, n + d = 258 → at_ + n ≤ s.size → alk s 258 j at_ = n + alk s d (j + n) (at_ + n) → Ev (fun k => binderyref11_Piece.l1 k s at_ l b j n) r := by
 have fin : ∀ n : Nat, alk s 258 j at_ = n → ∀ k, (if (n : Int) > (l : Int) then (binderyref11_Piece.l0 k s at_ n (wrap64 ((at_ : Int) - j)) (wrap64 ((j : Int) - 1))) else (binderyref11_Piece.l0 k s at_ l b (wrap64 ((j : Int) - 1)))) = (if l < alk s 258 j at_ then binderyref11_Piece.l0 k s at_ (alk s 258 j at_ : Nat) ((at_ - j : Nat) : Int) ((j : Int) - 1) else binderyref11_Piece.l0 k s at_ l b ((j : Int) - 1)) := fun n hn k => by
  rw [hn, w64 (x := (j : Int) - 1) (by omega) (by omega), show wrap64 ((at_ : Int) - j) = ((at_ - j : Nat) : Int) by rw [w64 (by omega) (by omega)]; omega]
  by_cases h : l < n
  ·rw [if_pos (by omega), if_pos h]
  ·rw [if_neg (by omega), if_neg h]
 intro d
 induction d with
 | zero =>
  intro n hn hsz ha
  rw [show alk s 0 (j + n) (at_ + n) = 0 from rfl, Nat.add_zero] at ha
  obtain ⟨K, hK⟩ := hr
  refine ⟨K + 1, fun k hk => ?_⟩
  obtain ⟨k, rfl⟩ : ∃ g, k = g + 1 := ⟨k - 1, by omega⟩
  simp only [binderyref11_Piece.l1]
  rw [if_neg (by omega), fin n ha k]
  exact hK k (by omega)
 | succ d ih =>
  intro n hn hsz ha
  rw [alk_succ s d (j + n) (at_ + n)] at ha
  have e1 : wrap64 ((at_ : Int) + n) = ((at_ + n : Nat) : Int) := by rw [w64 (by omega) (by omega)]; omega
  have e2 : wrap64 ((j : Int) + n) = ((j + n : Nat) : Int) := by rw [w64 (by omega) (by omega)]; omega
  have e3 : wrap64 ((n : Int) + 1) = ((n + 1 : Nat) : Int) := by rw [w64 (by omega) (by omega)]; omega
  by_cases h1 : at_ + n < s.size
  ·by_cases h2 : bt s ((at_ + n : Nat) : Int) = bt s ((j + n : Nat) : Int)
   ·rw [if_pos ⟨h1, h2⟩] at ha
    obtain ⟨K, hK⟩ := ih (n + 1) (by omega) (by omega) (by rw [ha, show j + (n + 1) = j + n + 1 by omega, show at_ + (n + 1) = at_ + n + 1 by omega]; omega)
    refine ⟨K + 1, fun k hk => ?_⟩
    obtain ⟨k, rfl⟩ : ∃ g, k = g + 1 := ⟨k - 1, by omega⟩
    simp only [binderyref11_Piece.l1]
    dsimp only at hK
    rw [if_pos (by omega), e1, e2, if_pos (by omega), if_pos (by omega), if_pos (by omega), if_pos (by omega), if_pos h2, e3, hK k (by omega)]
   ·rw [if_neg (fun h => h2 h.2), Nat.add_zero] at ha
    obtain ⟨K, hK⟩ := hr
    refine ⟨K + 1, fun k hk => ?_⟩
    obtain ⟨k, rfl⟩ : ∃ g, k = g + 1 := ⟨k - 1, by omega⟩
    simp only [binderyref11_Piece.l1]
    rw [if_pos (by omega), e1, e2, if_pos (by omega), if_pos (by omega), if_pos (by omega), if_pos (by omega), if_neg h2, fin n ha k]
    exact hK k (by omega)
  ·rw [if_neg (fun h => h1 h.1), Nat.add_zero] at ha
   obtain ⟨K, hK⟩ := hr
   refine ⟨K + 1, fun k hk => ?_⟩
   obtain ⟨k, rfl⟩ : ∃ g, k = g + 1 := ⟨k - 1, by omega⟩
   simp only [binderyref11_Piece.l1]
   rw [if_pos (by omega), e1, if_neg (by omega), fin n ha k]
   exact hK k (by omega)
theorem piece_l0 (s : ByteArray) (hs : s.size ≤ 300) (at_ : Nat) (hat : at_ < s.size) : ∀ jj l b : Nat, jj ≤ at_ → Ev (fun k => binderyref11_Piece.l0 k s at_ (l : Int) (b : Int) ((jj : Int) - 1)) (((pcL s at_ jj l b).1 : Int), ((pcL s at_ jj l b).2 : Int))
 | 0, l, b, _ => by
  refine ⟨2, fun k hk => ?_⟩
  obtain ⟨k, rfl⟩ : ∃ g, k = g + 2 := ⟨k - 2, by omega⟩
  simp only [binderyref11_Piece.l0]
  rw [if_neg (by omega), binderyref11_Piece.j1, if_neg (by decide)]
  rfl
 | j + 1, l, b, hj => by
  have ej : ((j + 1 : Nat) : Int) - 1 = (j : Int) := by omega
  rw [pcL, if_neg (by omega), ej]
  have h1 := piece_l1 s hs at_ j l b hat (by omega) (r := (((if l < alk s 258 j at_ then pcL s at_ j (alk s 258 j at_) (at_ - j) else pcL s at_ j l b).1 : Int), ((if l < alk s 258 j at_ then pcL s at_ j (alk s 258 j at_) (at_ - j) else pcL s at_ j l b).2 : Int))) (by
   by_cases h : l < alk s 258 j at_
   ·simp only [if_pos h]; exact piece_l0 s hs at_ hat j _ _ (by omega)
   ·simp only [if_neg h]; exact piece_l0 s hs at_ hat j _ _ (by omega)) 258 0 (by omega) (by omega) (by simp)
  obtain ⟨K, hK⟩ := h1
  refine ⟨K + 2, fun k hk => ?_⟩
  obtain ⟨k, rfl⟩ : ∃ g, k = g + 2 := ⟨k - 2, by omega⟩
  simp only [binderyref11_Piece.l0]
  dsimp only at hK
  rw [if_pos (by omega), binderyref11_Piece.j1, if_pos (by rw [decide_eq_true]; rw [w64 (by omega) (by omega)]; omega), show (0 : Int) = ((0 : Nat) : Int) from rfl, hK k (by omega)]
theorem piece_ev (s : ByteArray) (hs : s.size ≤ 300) (at_ : Nat) (hat : at_ < s.size) : Ev (fun k => binderyref11_Piece.f k s (at_ : Int)) (((pieceF s at_).1 : Int), ((pieceF s at_).2 : Int)) := by
 have h := piece_l0 s hs at_ hat at_ 0 0 (Nat.le_refl _)
 unfold binderyref11_Piece.f
 rw [show wrap64 ((at_ : Int) - 1) = (at_ : Int) - 1 from w64 (by omega) (by omega)]
 exact h
theorem fixl_len : fixLit.length = 288 := by decide +kernel
theorem fixd_len : fixDist.length = 32 := by decide +kernel
theorem cfix_len : (codesF fixLit).length = 288 := by rw [codesF_length fixl_may, fixl_len]
theorem sym_ev (L : List Int) (i : Nat) (hi : i < 288) (hL : L.length ≤ 10000000) : Ev (fun k => binderyref09_Put.f k L (rd fixLit (i : Int)) (rd (codesF fixLit) (i : Int))) (L ++ symB fixLit i) := by
 have hp := fixl_pos i hi
 have hn : fixLit.getD i 0 = ((fixLit.getD i 0).toNat : Int) := by omega
 obtain ⟨_, _, c1, c2, c3⟩ := code_between fixl_may i (by rw [fixl_len]; exact hi) _ hn (by omega)
 have c4 := pow_le2 c1
 have h := put_ev L (fixLit.getD i 0).toNat ((codesF fixLit).getD i 0) hL c1 c3 (by omega)
 rw [← hn] at h
 rw [rd_nat, rd_nat]
 exact h
theorem dsym_ev (L : List Int) (d : Nat) (hd : d < 32) (hL : L.length ≤ 10000000) : Ev (fun k => binderyref09_Put.f k L (rd fixDist (d : Int)) (d : Int)) (L ++ symB fixDist d) := by
 have hp := fixd_pos d hd
 have hn : fixDist.getD d 0 = ((fixDist.getD d 0).toNat : Int) := by omega
 have hc := fixd_code d hd
 have h := put_ev L (fixDist.getD d 0).toNat (d : Int) hL (by omega) (by omega) (by omega)
 rw [← hn] at h
 rw [rd_nat]
 unfold symB
 rw [hc]
 exact h
theorem text_ev (L : List Int) (h : Bit01 L) (hL : L.length ≤ 10000000) : Ev (fun k => binderyref08_Text.f k L) (textL L) := by
 obtain ⟨xs, x, m, hh⟩ := held_bits L h
 obtain ⟨k, hk⟩ := text_f hh hL
 rw [held_textL hh] at hk
 exact Ev.of (fun k => binderyref08_Text.mono _ k) hk
theorem lt257 (c : Nat) (h : c < 29) : 0 ≤ ((257 + c : Nat) : Int) ∧ ((257 + c : Nat) : Int) < ((288 : Nat) : Int) := by omega
theorem w257 (c : Nat) (h : c < 29) : wrap64 (257 + (c : Int)) = ((257 + c : Nat) : Int) := by rw [w64 (by omega) (by omega)]; omega
theorem c28 (c : Nat) : (c < 28 → (c : Int) < 28) ∧ (¬ c < 28 → ¬ (c : Int) < 28) := by omega
theorem lens_w (n l1 : Int) (l2 : Nat) (h0 : 0 ≤ n - l1) (h1 : n - l1 < 2 ^ l2) (h2 : l2 ≤ 5) : wrap64 (n - l1) = n - l1 := by
 have := pow_le2 h2
 exact w64 (by omega) (by omega)
theorem lens28 (c : Nat) (h : c < 29) (h2 : ¬ c < 28) : (lensT.getD c (0, 0)).2 = 0 := by
 obtain rfl : c = 28 := by omega
 rfl
theorem rfixed_j1 (s : ByteArray) (hs : s.size ≤ 300) (a n b d : Nat) (L : List Int) (hL : L.length ≤ 20000) (hb : 1 ≤ b ∧ b ≤ 32768) (hd : d = codeF distT b) (hn : a + n ≤ 300)
  (hr : Ev (fun k => binderyref11_Fixed.l0 k s fixLit fixDist (codesF fixLit) (L ++ (symB fixDist d ++ bitsN (b - (distT.getD d (0, 0)).1) (distT.getD d (0, 0)).2)) ((a + n : Nat) : Int)) (fixF s)) :
  Ev (fun k => binderyref11_Fixed.j1 k s fixLit fixDist (codesF fixLit) L a n b d) (fixF s) := by
 have hdo := dist_ok (n := (b : Int)) (by omega) (by omega)
 rw [← hd] at hdo
 obtain ⟨K1, h1⟩ := dsym_ev L d (by omega) (by omega)
 obtain ⟨K2, h2⟩ := rdist_ev d (by omega)
 have hsl : (symB fixDist d).length ≤ 9 := by
  unfold symB
  rw [revB_length]
  have := fixd_pos d (by omega)
  omega
 have hpw := pow_le2 hdo.2.2.2
 obtain ⟨K3, h3⟩ := number_ev (L ++ symB fixDist d) (b - (distT.getD d (0, 0)).1) (distT.getD d (0, 0)).2 (by rw [List.length_append]; omega) hdo.2.1 hdo.2.2.1 (by omega)
 obtain ⟨K4, h4⟩ := hr
 have h5 := rext_dist d (by omega)
 refine ⟨K1 + K2 + K3 + K4 + 1, fun k hk => ?_⟩
 obtain ⟨k, rfl⟩ : ∃ g, k = g + 1 := ⟨k - 1, by omega⟩
 dsimp only at h1 h2 h3 h4
 have hdl : (d : Int) < (fixDist.length : Int) := by rw [fixd_len]; omega
 simp only [binderyref11_Fixed.j1]
 rw [if_pos (by omega), if_pos hdl, h1 k (by omega), Option.bind_some, h2 k (by omega), Option.bind_some, h5, Option.bind_some, w64 (x := (b : Int) - (distT.getD d (0, 0)).1) (by omega) (by omega), h3 k (by omega), Option.bind_some, show wrap64 ((a : Int) + n) = ((a + n : Nat) : Int) by rw [w64 (by omega) (by omega)]; omega, List.append_assoc, h4 k (by omega)]
theorem rfixed_l0 (s : ByteArray) (hs : s.size ≤ 300) : ∀ (e a : Nat) (L : List Int), s.size - a ≤ e → a ≤ s.size → L.length ≤ 40 * a + 3 → L ++ fixG s (s.size + 1 - a) a = fixBits s → Ev (fun k => binderyref11_Fixed.l0 k s fixLit fixDist (codesF fixLit) L a) (fixF s) := by
 have fin : ∀ (L : List Int), L.length ≤ 40 * s.size + 3 → L ++ fixG s (s.size + 1 - s.size) s.size = fixBits s → Ev (fun k => binderyref11_Fixed.l0 k s fixLit fixDist (codesF fixLit) L (s.size : Nat)) (fixF s) := fun L hL heq => by
  rw [fixG_eq s s.size (Nat.le_refl _), if_neg (by omega)] at heq
  have h9 := symB_le 256 (by omega)
  obtain ⟨K1, h1⟩ := sym_ev L 256 (by omega) (by omega)
  have hbit : Bit01 (fixBits s) := ((bit01_bits _ _).app (bit01_bits _ _)).app (bit01_fix _ _ _)
  obtain ⟨K2, h2⟩ := text_ev (fixBits s) hbit (by rw [← heq, List.length_append]; omega)
  refine ⟨K1 + K2 + 1, fun k hk => ?_⟩
  obtain ⟨k, rfl⟩ : ∃ g, k = g + 1 := ⟨k - 1, by omega⟩
  dsimp only at h1 h2
  rw [show ((256 : Nat) : Int) = 256 from rfl, heq] at h1
  simp only [binderyref11_Fixed.l0]
  rw [if_neg (by omega), fixl_len, cfix_len, if_pos (by decide), if_pos (by decide), h1 k (by omega), Option.bind_some, h2 k (by omega), Option.bind_some]
  rfl
 intro e
 induction e with
 | zero =>
  intro a L he ha hL heq
  obtain rfl : a = s.size := by omega
  exact fin L hL heq
 | succ e ih =>
  intro a L he ha hL heq
  by_cases hlt : a < s.size
  ·rw [fixG_eq s a ha, if_pos hlt] at heq
   have hpf := piece_find s a ha
   have hfo := find_ok s a ha
   have hfl := find_le s a ha
   obtain ⟨K1, h1⟩ := piece_ev s hs a hlt
   dsimp only at h1
   have e1 : wrap64 ((a : Int) + 1) = ((a + 1 : Nat) : Int) := by rw [w64 (by omega) (by omega)]; omega
   by_cases h3 : (findF s a).1 < 3
   ·have hp3 : (pieceF s a).1 < 3 := by rcases hpf with ⟨q1, q2⟩ | ⟨q1, _⟩; rw [q2] at q1; omega; exact q1
    rw [if_pos h3, ← List.append_assoc] at heq
    have hby := bt_byte s (a : Int)
    obtain ⟨y, hy⟩ : ∃ y : Nat, bt s (a : Int) = (y : Int) := ⟨(bt s (a : Int)).toNat, by omega⟩
    rw [hy, Int.toNat_natCast] at heq
    rw [hy] at hby
    have h9 := symB_le y (by omega)
    obtain ⟨K2, h2⟩ := sym_ev L y (by omega) (by omega)
    obtain ⟨K3, h3'⟩ := ih (a + 1) (L ++ symB fixLit y) (by omega) (by omega) (by rw [List.length_append]; omega) heq
    refine ⟨K1 + K2 + K3 + 1, fun k hk => ?_⟩
    obtain ⟨k, rfl⟩ : ∃ g, k = g + 1 := ⟨k - 1, by omega⟩
    dsimp only at h2 h3'
    simp only [binderyref11_Fixed.l0]
    rw [if_pos (by omega), h1 k (by omega), Option.bind_some, if_pos (by dsimp only; omega), hy, w64 (x := (y : Int)) (by omega) (by omega), fixl_len, cfix_len, if_pos (by omega), if_pos (by omega), if_pos (by omega), if_pos (by omega), h2 k (by omega), Option.bind_some, e1, h3' k (by omega)]
   ·have hp3 : pieceF s a = findF s a := by rcases hpf with ⟨_, q2⟩ | ⟨_, q2⟩; exact q2; omega
    rw [if_neg h3, ← List.append_assoc] at heq
    rw [hp3] at h1
    have hbr : 1 ≤ (findF s a).2 ∧ (findF s a).2 ≤ 32768 := by
     rcases hfo with h | h
     ·omega
     ·exact ⟨h.1, h.2.2.1⟩
    obtain ⟨n, hn⟩ : ∃ n, n = (findF s a).1 := ⟨_, rfl⟩
    obtain ⟨b, hb⟩ : ∃ b, b = (findF s a).2 := ⟨_, rfl⟩
    rw [← hn, ← hb] at heq h1
    rw [← hb] at hbr
    rw [← hn] at hfl h3
    have hcl := copyB_le (n := (n : Int)) (back := (b : Int)) (by omega) (by omega)
    have hlo := lens_ok (n := (n : Int)) (by omega) (by omega)
    have hE := ih (a + n) (L ++ copyB n b) (by omega) (by omega) (by rw [List.length_append]; omega) heq
    obtain ⟨K2, h2⟩ := length_ev (n : Int) (by omega) (codeF lensT n) 0 (by omega)
    obtain ⟨K3, h3'⟩ := distance_ev (b : Int) (by omega) (codeF distT b) 0 (by omega)
    have hcp : copyB (n : Int) (b : Int) = symB fixLit (257 + codeF lensT n) ++ bitsN (n - (lensT.getD (codeF lensT n) (0, 0)).1) (lensT.getD (codeF lensT n) (0, 0)).2 ++ (symB fixDist (codeF distT b) ++ bitsN (b - (distT.getD (codeF distT b) (0, 0)).1) (distT.getD (codeF distT b) (0, 0)).2) := rfl
    obtain ⟨c, hc⟩ : ∃ c, c = codeF lensT (n : Int) := ⟨_, rfl⟩
    obtain ⟨d, hd⟩ : ∃ d, d = codeF distT (b : Int) := ⟨_, rfl⟩
    rw [← hc, ← hd] at hcp
    rw [← hc] at h2 hlo
    rw [← hd] at h3'
    have HLO := Aside0.mk hlo
    have hc29 := hlo.1
    have hl25 := hlo.2.2.2
    clear hlo
    have h9 := symB_le (257 + c) (by omega)
    obtain ⟨K4, h4⟩ := sym_ev L (257 + c) (by omega) (by omega)
    have hJ := rfixed_j1 s hs a n b d (L ++ symB fixLit (257 + c) ++ bitsN (n - (lensT.getD c (0, 0)).1) (lensT.getD c (0, 0)).2) (by rw [List.length_append, List.length_append, bitsN_length]; omega) hbr hd (by omega) (by
     rw [hcp] at hE
     simp only [← List.append_assoc] at hE ⊢
     exact hE)
    obtain ⟨K5, h5⟩ := hJ
    obtain ⟨K6, h6⟩ := rlen_ev c hc29
    obtain ⟨K7, h7⟩ := number_ev (L ++ symB fixLit (257 + c)) (n - (lensT.getD c (0, 0)).1) (lensT.getD c (0, 0)).2 (by rw [List.length_append]; omega) HLO.out.2.1 HLO.out.2.2.1 (by omega)
    have hw7 := lens_w n (lensT.getD c (0, 0)).1 (lensT.getD c (0, 0)).2 HLO.out.2.1 HLO.out.2.2.1 hl25
    have hz := lens28 c hc29
    have hx : c < 28 → binderyref10_Extra.f (c : Int) 8 4 = some ((lensT.getD c (0, 0)).2 : Int) := rext_len c
    have hn3 : ¬ (n : Int) < 3 := by omega
    have hal : (a : Int) < (s.size : Int) := by omega
    have ew := w257 c hc29
    have e257 := lt257 c hc29
    have hc28 := (c28 c).1
    have hc28' := (c28 c).2
    clear HLO hl25 hcp hE hcl heq hfl hfo hpf hbr h9 ih hp3 h3 hn hb hc hd fin
    generalize lensT.getD c (0, 0) = lb at *
    obtain ⟨l1, l2⟩ := lb
    dsimp only at h2 h3' h4 h5 h6 h7 hw7 hz hx
    refine ⟨K1 + K2 + K3 + K4 + K5 + K6 + K7 + 1, fun k hk => ?_⟩
    obtain ⟨k, rfl⟩ : ∃ g, k = g + 1 := ⟨k - 1, by omega⟩
    have g1 := h1 k (by omega)
    have g2 := h2 k (by omega)
    have g3 := h3' k (by omega)
    have g4 := h4 k (by omega)
    have g5 := h5 k (by omega)
    have g6 := h6 k (by omega)
    have g7 := h7 k (by omega)
    have hlf : ∀ k, binderyref11_length.f k (n : Int) = binderyref11_length.l0 k (n : Int) ((0 : Nat) : Int) := fun k => rfl
    have hdf : ∀ k, binderyref11_distance.f k (b : Int) = binderyref11_distance.l0 k (b : Int) ((0 : Nat) : Int) := fun k => rfl
    clear h1 h2 h3' h4 h5 h6 h7 hk
    simp only [binderyref11_Fixed.l0]
    rw [if_pos hal, g1, Option.bind_some, if_neg hn3]
    dsimp only
    rw [hlf, g2, Option.bind_some, hdf, g3, Option.bind_some, ew, fixl_len, cfix_len, if_pos e257.1, if_pos e257.2, if_pos e257.2, g4, Option.bind_some]
    by_cases h28 : c < 28
    ·rw [if_pos (hc28 h28), g6, Option.bind_some, hx h28, Option.bind_some, hw7, g7, Option.bind_some, g5]
    ·rw [if_neg (hc28' h28)]
     rw [hz h28, bitsN, List.append_nil] at g5
     exact g5
  ·obtain rfl : a = s.size := by omega
   exact fin L hL heq
theorem rfixed_ev (s : ByteArray) (hs : s.size ≤ 300) : Ev (fun k => binderyref11_Fixed.f k s) (fixF s) := by
 obtain ⟨K1, h1⟩ := rfix_ev
 obtain ⟨K2, h2⟩ := refcodes_ev fixLit (by rw [fixl_len]; omega)
 obtain ⟨K3, h3⟩ := number_ev [] 1 1 (by decide) (by decide) (by decide) (by decide)
 obtain ⟨K4, h4⟩ := number_ev ([] ++ bitsN 1 1) 1 2 (by decide) (by decide) (by decide) (by decide)
 obtain ⟨K5, h5⟩ := rfixed_l0 s hs s.size 0 ([] ++ bitsN 1 1 ++ bitsN 1 2) (by omega) (by omega) (by decide) rfl
 refine ⟨K1 + K2 + K3 + K4 + K5, fun k hk => ?_⟩
 dsimp only at h1 h2 h3 h4 h5
 show binderyref11_Fixed.f k s = _
 unfold binderyref11_Fixed.f
 rw [h1 k (by omega), Option.bind_some, h2 k (by omega), Option.bind_some, show (1 : Int) = ((1 : Nat) : Int) from rfl]
 rw [show ((1 : Nat) : Int) = 1 from rfl] at h3 ⊢
 rw [h3 k (by omega), Option.bind_some, show (2 : Int) = ((2 : Nat) : Int) from rfl, h4 k (by omega), Option.bind_some, show (0 : Int) = ((0 : Nat) : Int) from rfl]
 exact h5 k (by omega)
theorem rbest_ev (s : ByteArray) (hs : s.size ≤ 300) : Ev (fun k => binderyref11_Best.f k s) (bestF s) := by
 obtain ⟨K, hK⟩ := rfixed_ev s hs
 refine ⟨K, fun k hk => ?_⟩
 have hR := hK k hk
 dsimp only at hR
 show binderyref11_Best.f k s = _
 unfold binderyref11_Best.f bestF
 rw [hR, Option.bind_some, rstored_f s (by omega), Option.bind_some, ← store_same s]
 by_cases h : (fixF s).size < (storeF s).size
 ·rw [if_pos (by omega), if_pos h]
 ·rw [if_neg (by omega), if_neg h]
end Go.Proofs.Ytbgdadehjnifeaa.Hand
