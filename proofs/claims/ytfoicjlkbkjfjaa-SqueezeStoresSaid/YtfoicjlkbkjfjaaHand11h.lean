/- Squeeze: the coder in memory; a symbol, a copy; walked by hand. -/
import Derived.Test.YtfoicjlkbkjfjaaHand11
import Derived.Test.YtfoicjlkbkjfjaaHand09u
namespace Go.Proofs.Ytfoicjlkbkjfjaa.Hand
open Go.RowKit Go.Proofs.YtfoicjlkbkjfjaaW.PrintWords Go.Proofs.YtfoicjlkbkjfjaaW.PrintLast Go.Proofs.YtfoicjlkbkjfjaaW.PrintMore Go.Proofs.Ytfoicjlkbkjfjaa.Num Go.Proofs.Ytfoicjlkbkjfjaa.Bits
set_option linter.unusedVariables false
set_option linter.unusedSimpArgs false
/-- A coder to which these bits were written. -/
structure CoderAt (w : World) (B g nt at_ : Nat) (L : List Int) : Prop where
  wr : WrAt w B g 46 [.pointer (some ⟨nt, 0, none⟩), .pointer (some ⟨at_, 0, none⟩)] L
  near : Tr w B nt fixLit
  away : Tr w B at_ fixDist
theorem coder_other : OtherT 46 := ⟨by decide, by decide, by decide⟩
theorem CoderAt.fr {w w1 : World} {B g nt at_ : Nat} {L L1 : List Int} (h : CoderAt w B g nt at_ L) (hf : Fr w w1 (SU B g w)) (hw : WrAt w1 B g 46 [.pointer (some ⟨nt, 0, none⟩), .pointer (some ⟨at_, 0, none⟩)] L1) : CoderAt w1 B g nt at_ L1 :=
  ⟨hw, TreeAt.fr h.near h.wr hf coder_other, TreeAt.fr h.away h.wr hf coder_other⟩
theorem CoderAt.below {w w1 : World} {B g nt at_ : Nat} {L : List Int} (h : CoderAt w B g nt at_ L) (hb : Below w.heap.size w w1) : CoderAt w1 B g nt at_ L := ⟨h.wr.below hb, TreeAt.below h.near hb, TreeAt.below h.away hb⟩
theorem CoderAt.drawn {w w1 : World} {B g nt at_ : Nat} {L : List Int} (h : CoderAt w B g nt at_ L) (hd : Drawn0 w w1) : CoderAt w1 B g nt at_ L := ⟨h.wr.drawn hd, TreeAt.drawn h.near hd, TreeAt.drawn h.away hd⟩
/-- The cells of a coder. -/
theorem CoderAt.cells {w : World} {B g nt at_ : Nat} {L : List Int} (h : CoderAt w B g nt at_ L) : w.cell? ⟨g, 3, none⟩ = some (.pointer (some ⟨nt, 0, none⟩)) ∧ w.cell? ⟨g, 4, none⟩ = some (.pointer (some ⟨at_, 0, none⟩)) := by
  obtain ⟨x, m, v, xs, hb, _⟩ := h.wr.open_
  exact ⟨(blk_cell hb 3).trans (by simp), (blk_cell hb 4).trans (by simp)⟩
theorem fixl_may : mayF fixLit = 0 := by decide +kernel
theorem fixd_may : mayF fixDist = 0 := by decide +kernel
theorem fixl_pos : ∀ i, i < 288 → 0 < fixLit.getD i 0 ∧ fixLit.getD i 0 ≤ 9 := by
  have h : (List.range 288).all (fun i => decide (0 < fixLit.getD i 0 ∧ fixLit.getD i 0 ≤ 9)) = true := by decide +kernel
  intro i hi
  simpa using List.all_eq_true.1 h i (List.mem_range.2 hi)
theorem fixd_pos : ∀ i, i < 32 → 0 < fixDist.getD i 0 ∧ fixDist.getD i 0 ≤ 9 := by
  have h : (List.range 32).all (fun i => decide (0 < fixDist.getD i 0 ∧ fixDist.getD i 0 ≤ 9)) = true := by decide +kernel
  intro i hi
  simpa using List.all_eq_true.1 h i (List.mem_range.2 hi)
theorem revB_length (c : Int) : ∀ n, (revB c n).length = n
  | 0 => rfl
  | n + 1 => by rw [revB, List.length_cons, revB_length c n]
/-- A symbol is written. -/
theorem sym_calls (w : World) (B tb g k : Nat) (l L : List Int) (t : TypeId) (post : List Value) (hm : mayF l = 0) (hT : Tr w B tb l) (hW : WrAt w B g t post L) (ht : OtherT t) (hB : B ≤ w.heap.size) (hk : k < l.length) (h0 : 0 < l.getD k 0) (hL : L.length ≤ 10000000) :
    Calls Try.prog 25 #[.pointer (some ⟨tb, 0, none⟩), .pointer (some ⟨g, 0, none⟩), .int .i64 (k : Int)] w fun e w' => e = .returned (.int .i64 0) ∧ WrAt w' B g t post (L ++ symB l k) ∧ Fr w w' (SU B g w) := by
  have hn : l.getD k 0 = ((l.getD k 0).toNat : Int) := by omega
  obtain ⟨_, _, c1, c2, c3⟩ := code_between hm k hk _ hn (by omega)
  have c4 := pow_le2 c1
  exact write_ok w B tb g l (codesF l) (cntL l) (symA l 16) (lgA l 16) k _ L hT hW hB hk (by rw [codesF_length hm]; exact hk) hn (by omega) c1 c3 (by omega) hL ht
theorem nearw_calls (w : World) (B g nt at_ k : Nat) (L : List Int) (h : CoderAt w B g nt at_ L) (hB : B ≤ w.heap.size) (hk : k < 288) (hL : L.length ≤ 10000000) :
    Calls Try.prog 25 #[.pointer (some ⟨nt, 0, none⟩), .pointer (some ⟨g, 0, none⟩), .int .i64 (k : Int)] w fun e w' => e = .returned (.int .i64 0) ∧ CoderAt w' B g nt at_ (L ++ symB fixLit k) ∧ Fr w w' (SU B g w) :=
  (sym_calls w B nt g k fixLit L _ _ fixl_may h.near h.wr coder_other hB (by have : fixLit.length = 288 := by decide +kernel
                                                                             omega) (fixl_pos k hk).1 hL).mono (by rintro e w1 ⟨rfl, h1, h2⟩; exact ⟨rfl, h.fr h2 h1, h2⟩)
theorem awayw_calls (w : World) (B g nt at_ k : Nat) (L : List Int) (h : CoderAt w B g nt at_ L) (hB : B ≤ w.heap.size) (hk : k < 32) (hL : L.length ≤ 10000000) :
    Calls Try.prog 25 #[.pointer (some ⟨at_, 0, none⟩), .pointer (some ⟨g, 0, none⟩), .int .i64 (k : Int)] w fun e w' => e = .returned (.int .i64 0) ∧ CoderAt w' B g nt at_ (L ++ symB fixDist k) ∧ Fr w w' (SU B g w) :=
  (sym_calls w B at_ g k fixDist L _ _ fixd_may h.away h.wr coder_other hB (by have : fixDist.length = 32 := by decide +kernel
                                                                               omega) (fixd_pos k hk).1 hL).mono (by rintro e w1 ⟨rfl, h1, h2⟩; exact ⟨rfl, h.fr h2 h1, h2⟩)
theorem cput_calls (w : World) (B g nt at_ : Nat) (n : Int) (k : Nat) (L : List Int) (h : CoderAt w B g nt at_ L) (hB : B ≤ w.heap.size) (hn0 : 0 ≤ n) (hn : n < 2 ^ k) (hk : k ≤ 16) (hL : L.length ≤ 10000000) :
    Calls Try.prog 20 #[.pointer (some ⟨g, 0, none⟩), .int .i64 n, .int .i64 (k : Int)] w fun e w' => e = .returned (.int .i64 0) ∧ CoderAt w' B g nt at_ (L ++ bitsN n k) ∧ Fr w w' (SU B g w) :=
  (wr_put w B g _ _ L n k h.wr (by decide) hn0 hn hk (by omega) hB).mono (by rintro e w1 ⟨rfl, h1, h2⟩; exact ⟨rfl, h.fr h2 h1, h2⟩)
theorem TabAt.frU {w w1 : World} {B g g0 : Nat} {T : List (Int × Nat)} {t : TypeId} {post : List Value} {L : List Int} (h : TabAt w g0 T) (hW : WrAt w B g t post L) (ht : 98 ≠ t) (hf : Fr w w1 (SU B g w)) : TabAt w1 g0 T := by
  refine hf.blk h ?_
  obtain ⟨x, m, u, xs, q1, _⟩ := hW.open_
  rintro (rfl | ⟨_, c2, fr, h2⟩)
  · unfold TabAt at h; rw [h] at q1; injection q1 with q1; injection q1 with _ q1; exact absurd q1 ht
  · unfold TabAt at h; rw [h] at h2; injection h2 with h2; injection h2 with _ h2; exact absurd h2 (by decide)
theorem TabAt.below {w w1 : World} {g0 : Nat} {T : List (Int × Nat)} (h : TabAt w g0 T) (hb : Below w.heap.size w w1) : TabAt w1 g0 T := blk_below h hb
set_option maxRecDepth 100000 in
set_option maxHeartbeats 4000000 in
theorem copied_calls (w : World) (B g nt at_ : Nat) (n back : Int) (L : List Int) (h : CoderAt w B g nt at_ L) (hB : B ≤ w.heap.size) (hn : 3 ≤ n ∧ n ≤ 258) (hbk : 1 ≤ back ∧ back ≤ 32768) (hL : L.length ≤ 9000000) :
    Calls Try.prog 26 #[.pointer (some ⟨g, 0, none⟩), .int .i64 n, .int .i64 back] w fun e w' => e = .returned (.tuple #[]) ∧ CoderAt w' B g nt at_ (L ++ copyB n back) ∧ Fr w w' (SU B g w) := by
  have HC := Aside0.mk h
  have HLO := Aside0.mk (lens_ok hn.1 hn.2)
  have HDO := Aside0.mk (dist_ok hbk.1 hbk.2)
  clear h
  go_enter Try.func26, Try.ntmps26
  go_wp2_with fail
  refine (slengths_calls w).mono ?_
  rintro e w1 ⟨g1, rfl, ht1, hg1, hb1⟩
  have H1 : Aside0 (_ ∧ _) := ⟨ht1, hb1⟩
  clear ht1 hb1
  go_wp2_with fail
  refine (sdistances_calls w1).mono ?_
  rintro e w2 ⟨g2, rfl, ht2, hg2, hb2⟩
  have H2 : Aside0 (_ ∧ _ ∧ _) := ⟨H1.out.1.below hb2, ht2, H1.out.2.trans (hb2.mono H1.out.2.size)⟩
  have H3 := Aside0.mk (HC.out.below H2.out.2.2)
  clear ht2 hb2 H1 HC
  have hB2 : B ≤ w2.heap.size := Nat.le_trans hB H2.out.2.2.size
  have HF2 : Aside0 (Fr w w2 (SU B g w)) := ⟨Fr.of_below H2.out.2.2 _⟩
  go_wp2_with fail
  refine (scode_calls w2 ⟨g1, 0, none⟩ lensT g1 n H2.out.1.tab (by decide) 29).mono ?_
  rintro e w3 ⟨rfl, rfl⟩
  obtain ⟨k, hk⟩ : ∃ k, k = codeF lensT n := ⟨_, rfl⟩
  have HLO2 := HLO.out
  rw [← hk] at HLO2 ⊢
  have HK := Aside0.mk hk
  clear hk
  have hk29 := HLO2.1
  obtain ⟨c3, c4⟩ := H3.out.cells
  have HN1 := Aside0.mk (nearw_calls w2.drew B g nt at_ (257 + k) L (H3.out.drawn ⟨⟨1, rfl⟩⟩) hB2 (by omega) (by omega))
  have ecast : ((257 + k : Nat) : Int) = 257 + (k : Int) := by omega
  rw [ecast] at HN1
  clear ecast
  have hwr : IntKind.i64.wrap (257 + (k : Int)) = 257 + (k : Int) := IntWalk.i64_in _ (by omega)
  go_wp2_with fail
  go_region_with (go_at_call 25; (with_reducible refine HN1.out.mono ?_); rintro e w3 ⟨rfl, hc3, hf3⟩)
  have H4 : Aside0 (_ ∧ _ ∧ _ ∧ _) := ⟨hc3, H2.out.1.frU H3.out.wr (by decide) hf3.of_drew, H2.out.2.1.frU H3.out.wr (by decide) hf3.of_drew, HF2.out.su hf3.of_drew⟩
  have hB3 : B ≤ w3.heap.size := Nat.le_trans hB2 hf3.of_drew.size
  clear HN1 hc3 hf3 c3 c4 H2 H3 HF2
  have hl9 : (symB fixLit (257 + k)).length ≤ 9 := by
    unfold symB
    rw [revB_length]
    have := fixl_pos (257 + k) (by omega)
    omega
  obtain ⟨t1, t2⟩ := H4.out.2.1.tab.at_ k hk29
  obtain ⟨lb, hlb⟩ : ∃ lb, lb = lensT.getD k (0, 0) := ⟨_, rfl⟩
  rw [← hlb] at t1 t2 HLO2
  obtain ⟨A1, hA1⟩ : ∃ A1 : Addr, A1 = ⟨g1, 0, none⟩ := ⟨_, rfl⟩
  rw [← hA1] at t1 t2 ⊢
  have HLB : Aside0 (_ ∧ _) := ⟨hlb, hA1⟩
  have HP1 := Aside0.mk (cput_calls w3.drew B g nt at_ (n - lb.1) lb.2 (L ++ symB fixLit (257 + k)) (H4.out.1.drawn ⟨⟨1, rfl⟩⟩) hB3 HLO2.2.1 HLO2.2.2.1 (by omega) (by rw [List.length_append]; omega))
  obtain ⟨l1, l2⟩ := lb
  dsimp only at t1 t2 HP1
  dsimp only at HLO2
  have hpw := pow_le2 HLO2.2.2.2
  have hwn : IntKind.i64.wrap (n - l1) = n - l1 := IntWalk.i64_in _ (by omega)
  clear hlb hA1
  have ik0 : (0 : Int) ≤ (k : Int) := by omega
  have ik1 : (k : Int) < 29 := by omega
  go_wp2_with fail
  have HEE : Aside0 (∀ W, Fr w3 W (SU B g w3) → W.cell? (A1.add (k * 2)) = some (.int .i64 l1) ∧ W.cell? ⟨(A1.add (k * 2)).block, (A1.add (k * 2)).off + 1, none⟩ = some (.int .i64 (l2 : Int))) := ⟨fun W hf => by
    have := (H4.out.2.1.frU H4.out.1.wr (by decide) hf).tab.at_ k hk29
    rw [← HLB.out.1, ← HLB.out.2] at this
    exact this⟩
  go_region_held3 (fun w' => w'.cell? (A1.add (k * 2)) = some (.int .i64 l1) ∧ w'.cell? ⟨(A1.add (k * 2)).block, (A1.add (k * 2)).off + 1, none⟩ = some (.int .i64 (l2 : Int))) (first | exact ⟨t1, t2⟩ | exact ⟨e0, e1⟩) ((go_at_call 20; (with_reducible refine HP1.out.mono ?_); rintro e w4 ⟨rfl, hc4, hf4⟩; have ee := HEE.out w4 hf4.of_drew; have e0 := ee.1; have e1 := ee.2))
  have hL4 : (L ++ symB fixLit (257 + k) ++ bitsN (n - l1) l2).length ≤ L.length + 14 := by
    rw [List.length_append, List.length_append, bitsN_length]
    have := HLO2.2.2.2
    omega
  have H5 : Aside0 (_ ∧ _ ∧ _) := ⟨hc4, H4.out.2.2.1.frU H4.out.1.wr (by decide) hf4.of_drew, H4.out.2.2.2.su hf4.of_drew⟩
  have hB4 : B ≤ w4.heap.size := Nat.le_trans hB3 hf4.of_drew.size
  obtain ⟨L2, hL2⟩ : ∃ L2, L2 = L ++ symB fixLit (257 + k) ++ bitsN (n - l1) l2 := ⟨_, rfl⟩
  rw [← hL2] at H5 hL4
  have HL2 := Aside0.mk hL2
  clear e0 e1 ee HEE HP1 hc4 hf4 t1 t2 H4 hL2 hwn hpw hl9 hB3 hB2 HLO2 hwr hk29
  obtain ⟨A2, hA2⟩ : ∃ A2 : Addr, A2 = ⟨g2, 0, none⟩ := ⟨_, rfl⟩
  have HT2 : Aside0 (Tab w4 g2 A2 distT) := ⟨by rw [hA2]; exact H5.out.2.1.tab⟩
  rw [← hA2]
  have HA2 := Aside0.mk hA2
  clear hA2
  go_wp2_with fail
  refine (scode_calls w4 A2 distT g2 back HT2.out (by decide) 30).mono ?_
  rintro e w5 ⟨rfl, rfl⟩
  obtain ⟨d, hd⟩ : ∃ d, d = codeF distT back := ⟨_, rfl⟩
  have HDO2 := HDO.out
  rw [← hd] at HDO2 ⊢
  have HD := Aside0.mk hd
  clear hd
  have hd30 := HDO2.1
  obtain ⟨c3, c4⟩ := H5.out.1.cells
  have HN2 := Aside0.mk (awayw_calls w4.drew B g nt at_ d L2 (H5.out.1.drawn ⟨⟨1, rfl⟩⟩) hB4 (by omega) (by omega))
  go_wp2_with fail
  go_region_with (go_at_call 25; (with_reducible refine HN2.out.mono ?_); rintro e w6 ⟨rfl, hc6, hf6⟩)
  have H6 : Aside0 (_ ∧ _ ∧ _) := ⟨hc6, H5.out.2.1.frU H5.out.1.wr (by decide) hf6.of_drew, H5.out.2.2.su hf6.of_drew⟩
  have hB6 : B ≤ w6.heap.size := Nat.le_trans hB4 hf6.of_drew.size
  clear HN2 hc6 hf6 c3 c4 H5 HT2
  have hl9 : (symB fixDist d).length ≤ 9 := by
    unfold symB
    rw [revB_length]
    have := fixd_pos d (by omega)
    omega
  have HTB : Tab w6 g2 A2 distT := by rw [HA2.out]; exact H6.out.2.1.tab
  obtain ⟨t1, t2⟩ := HTB.at_ d hd30
  obtain ⟨lb, hlb⟩ : ∃ lb, lb = distT.getD d (0, 0) := ⟨_, rfl⟩
  rw [← hlb] at t1 t2 HDO2
  have HLB2 := Aside0.mk hlb
  have HP1 := Aside0.mk (cput_calls w6.drew B g nt at_ (back - lb.1) lb.2 (L2 ++ symB fixDist d) (H6.out.1.drawn ⟨⟨1, rfl⟩⟩) hB6 HDO2.2.1 HDO2.2.2.1 (by omega) (by rw [List.length_append]; omega))
  obtain ⟨m1, m2⟩ := lb
  dsimp only at t1 t2 HP1 HDO2
  have hpw := pow_le2 HDO2.2.2.2
  have hwn : IntKind.i64.wrap (back - m1) = back - m1 := IntWalk.i64_in _ (by omega)
  clear hlb HTB
  have id0 : (0 : Int) ≤ (d : Int) := by omega
  have id1 : (d : Int) < 30 := by omega
  go_wp2_with fail
  have HEE : Aside0 (∀ W, Fr w6 W (SU B g w6) → W.cell? (A2.add (d * 2)) = some (.int .i64 m1) ∧ W.cell? ⟨(A2.add (d * 2)).block, (A2.add (d * 2)).off + 1, none⟩ = some (.int .i64 (m2 : Int))) := ⟨fun W hf => by
    have := (H6.out.2.1.frU H6.out.1.wr (by decide) hf).tab.at_ d hd30
    rw [← HLB2.out, ← HA2.out] at this
    exact this⟩
  go_region_held3 (fun w' => w'.cell? (A2.add (d * 2)) = some (.int .i64 m1) ∧ w'.cell? ⟨(A2.add (d * 2)).block, (A2.add (d * 2)).off + 1, none⟩ = some (.int .i64 (m2 : Int))) (first | exact ⟨t1, t2⟩ | exact ⟨e0, e1⟩) ((go_at_call 20; (with_reducible refine HP1.out.mono ?_); rintro e w7 ⟨rfl, hc7, hf7⟩; have ee := HEE.out w7 hf7.of_drew; have e0 := ee.1; have e1 := ee.2))
  have HF : Aside0 (_ ∧ _) := ⟨hc7, H6.out.2.2.su hf7.of_drew⟩
  clear hc7 hf7 HP1
  go_wp2_with fail
  go_returns
  have e : L2 ++ symB fixDist d ++ bitsN (back - m1) m2 = L ++ copyB n back := by
    unfold copyB
    rw [← HK.out, ← HD.out, ← HLB.out.1, ← HLB2.out, HL2.out]
    simp only [List.append_assoc]
  rw [← e]
  exact ⟨rfl, HF.out⟩
end Go.Proofs.Ytfoicjlkbkjfjaa.Hand
