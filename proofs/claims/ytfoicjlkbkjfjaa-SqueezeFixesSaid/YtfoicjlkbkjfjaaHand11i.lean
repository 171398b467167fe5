/- Squeeze: the coder in memory; a symbol, a copy; walked by hand. Squeeze: a new coder; walked by hand. -/
import Derived.Test.YtfoicjlkbkjfjaaHand11
import Derived.Test.YtfoicjlkbkjfjaaHand09u
namespace Go.Proofs.Ytfoicjlkbkjfjaa.Hand
open Go.RowKit Go.Proofs.YtfoicjlkbkjfjaaW.PrintWords Go.Proofs.YtfoicjlkbkjfjaaW.PrintLast Go.Proofs.YtfoicjlkbkjfjaaW.PrintMore Go.Proofs.Ytfoicjlkbkjfjaa.Num Go.Proofs.Ytfoicjlkbkjfjaa.Bits
set_option linter.unusedVariables false
set_option linter.unusedSimpArgs false
/-- A coder to which these bits were written. -/
structure CoderAt (w : World) (B g nt at_ : Nat) (L : List Int) : Prop where
  wr : WrAt w B g 46 [.pointer (some ⟨nt, 0, none⟩), .pointer (some ⟨at_, 0, none⟩)] L
  near : Tr w B nt fixLit
  away : Tr w B at_ fixDist
theorem coder_other : OtherT 46 := ⟨by decide, by decide, by decide⟩
theorem CoderAt.fr {w w1 : World} {B g nt at_ : Nat} {L L1 : List Int} (h : CoderAt w B g nt at_ L) (hf : Fr w w1 (SU B g w)) (hw : WrAt w1 B g 46 [.pointer (some ⟨nt, 0, none⟩), .pointer (some ⟨at_, 0, none⟩)] L1) : CoderAt w1 B g nt at_ L1 :=
  ⟨hw, TreeAt.fr h.near h.wr hf coder_other, TreeAt.fr h.away h.wr hf coder_other⟩
theorem CoderAt.below {w w1 : World} {B g nt at_ : Nat} {L : List Int} (h : CoderAt w B g nt at_ L) (hb : Below w.heap.size w w1) : CoderAt w1 B g nt at_ L := ⟨h.wr.below hb, TreeAt.below h.near hb, TreeAt.below h.away hb⟩
theorem CoderAt.drawn {w w1 : World} {B g nt at_ : Nat} {L : List Int} (h : CoderAt w B g nt at_ L) (hd : Drawn0 w w1) : CoderAt w1 B g nt at_ L := ⟨h.wr.drawn hd, TreeAt.drawn h.near hd, TreeAt.drawn h.away hd⟩
/-- The cells of a coder. -/
theorem CoderAt.cells {w : World} {B g nt at_ : Nat} {L : List Int} (h : CoderAt w B g nt at_ L) : w.cell? ⟨g, 3, none⟩ = some (.pointer (some ⟨nt, 0, none⟩)) ∧ w.cell? ⟨g, 4, none⟩ = some (.pointer (some ⟨at_, 0, none⟩)) := by
  obtain ⟨x, m, v, xs, hb, _⟩ := h.wr.open_
  exact ⟨(blk_cell hb 3).trans (by simp), (blk_cell hb 4).trans (by simp)⟩
theorem fixl_may : mayF fixLit = 0 := by decide +kernel
theorem fixd_may : mayF fixDist = 0 := by decide +kernel
theorem fixl_pos : ∀ i, i < 288 → 0 < fixLit.getD i 0 ∧ fixLit.getD i 0 ≤ 9 := by
  have h : (List.range 288).all (fun i => decide (0 < fixLit.getD i 0 ∧ fixLit.getD i 0 ≤ 9)) = true := by decide +kernel
  intro i hi
  simpa using List.all_eq_true.1 h i (List.mem_range.2 hi)
theorem fixd_pos : ∀ i, i < 32 → 0 < fixDist.getD i 0 ∧ fixDist.getD i 0 ≤ 9 := by
  have h : (List.range 32).all (fun i => decide (0 < fixDist.getD i 0 ∧ fixDist.getD i 0 ≤ 9)) = true := by decide +kernel
  intro i hi
  simpa using List.all_eq_true.1 h i (List.mem_range.2 hi)
theorem s_revB_length (c : Int) : ∀ n, (revB c n).length = n
  | 0 => rfl
  | n + 1 => by rw [revB, List.length_cons, s_revB_length c n]
/-- A symbol is written. -/
theorem sym_calls (w : World) (B tb g k : Nat) (l L : List Int) (t : TypeId) (post : List Value) (hm : mayF l = 0) (hT : Tr w B tb l) (hW : WrAt w B g t post L) (ht : OtherT t) (hB : B ≤ w.heap.size) (hk : k < l.length) (h0 : 0 < l.getD k 0) (hL : L.length ≤ 10000000) :
    Calls Try.prog 25 #[.pointer (some ⟨tb, 0, none⟩), .pointer (some ⟨g, 0, none⟩), .int .i64 (k : Int)] w fun e w' => e = .returned (.int .i64 0) ∧ WrAt w' B g t post (L ++ symB l k) ∧ Fr w w' (SU B g w) := by
  have hn : l.getD k 0 = ((l.getD k 0).toNat : Int) := by omega
  obtain ⟨_, _, c1, c2, c3⟩ := code_between hm k hk _ hn (by omega)
  have c4 := pow_le2 c1
  exact write_ok w B tb g l (codesF l) (cntL l) (symA l 16) (lgA l 16) k _ L hT hW hB hk (by rw [codesF_length hm]; exact hk) hn (by omega) c1 c3 (by omega) hL ht
theorem nearw_calls (w : World) (B g nt at_ k : Nat) (L : List Int) (h : CoderAt w B g nt at_ L) (hB : B ≤ w.heap.size) (hk : k < 288) (hL : L.length ≤ 10000000) :
    Calls Try.prog 25 #[.pointer (some ⟨nt, 0, none⟩), .pointer (some ⟨g, 0, none⟩), .int .i64 (k : Int)] w fun e w' => e = .returned (.int .i64 0) ∧ CoderAt w' B g nt at_ (L ++ symB fixLit k) ∧ Fr w w' (SU B g w) :=
  (sym_calls w B nt g k fixLit L _ _ fixl_may h.near h.wr coder_other hB (by have : fixLit.length = 288 := by decide +kernel
                                                                             omega) (fixl_pos k hk).1 hL).mono (by rintro e w1 ⟨rfl, h1, h2⟩; exact ⟨rfl, h.fr h2 h1, h2⟩)
theorem awayw_calls (w : World) (B g nt at_ k : Nat) (L : List Int) (h : CoderAt w B g nt at_ L) (hB : B ≤ w.heap.size) (hk : k < 32) (hL : L.length ≤ 10000000) :
    Calls Try.prog 25 #[.pointer (some ⟨at_, 0, none⟩), .pointer (some ⟨g, 0, none⟩), .int .i64 (k : Int)] w fun e w' => e = .returned (.int .i64 0) ∧ CoderAt w' B g nt at_ (L ++ symB fixDist k) ∧ Fr w w' (SU B g w) :=
  (sym_calls w B at_ g k fixDist L _ _ fixd_may h.away h.wr coder_other hB (by have : fixDist.length = 32 := by decide +kernel
                                                                               omega) (fixd_pos k hk).1 hL).mono (by rintro e w1 ⟨rfl, h1, h2⟩; exact ⟨rfl, h.fr h2 h1, h2⟩)
theorem cput_calls (w : World) (B g nt at_ : Nat) (n : Int) (k : Nat) (L : List Int) (h : CoderAt w B g nt at_ L) (hB : B ≤ w.heap.size) (hn0 : 0 ≤ n) (hn : n < 2 ^ k) (hk : k ≤ 16) (hL : L.length ≤ 10000000) :
    Calls Try.prog 20 #[.pointer (some ⟨g, 0, none⟩), .int .i64 n, .int .i64 (k : Int)] w fun e w' => e = .returned (.int .i64 0) ∧ CoderAt w' B g nt at_ (L ++ bitsN n k) ∧ Fr w w' (SU B g w) :=
  (wr_put w B g _ _ L n k h.wr (by decide) hn0 hn hk (by omega) hB).mono (by rintro e w1 ⟨rfl, h1, h2⟩; exact ⟨rfl, h.fr h2 h1, h2⟩)
theorem TabAt.frU {w w1 : World} {B g g0 : Nat} {T : List (Int × Nat)} {t : TypeId} {post : List Value} {L : List Int} (h : TabAt w g0 T) (hW : WrAt w B g t post L) (ht : 98 ≠ t) (hf : Fr w w1 (SU B g w)) : TabAt w1 g0 T := by
  refine hf.blk h ?_
  obtain ⟨x, m, u, xs, q1, _⟩ := hW.open_
  rintro (rfl | ⟨_, c2, fr, h2⟩)
  · unfold TabAt at h; rw [h] at q1; injection q1 with q1; injection q1 with _ q1; exact absurd q1 ht
  · unfold TabAt at h; rw [h] at h2; injection h2 with h2; injection h2 with _ h2; exact absurd h2 (by decide)
theorem TabAt.below {w w1 : World} {g0 : Nat} {T : List (Int × Nat)} (h : TabAt w g0 T) (hb : Below w.heap.size w w1) : TabAt w1 g0 T := blk_below h hb
set_option maxRecDepth 100000 in
set_option maxHeartbeats 4000000 in
theorem copied_calls (w : World) (B g nt at_ : Nat) (n back : Int) (L : List Int) (h : CoderAt w B g nt at_ L) (hB : B ≤ w.heap.size) (hn : 3 ≤ n ∧ n ≤ 258) (hbk : 1 ≤ back ∧ back ≤ 32768) (hL : L.length ≤ 9000000) :
    Calls Try.prog 26 #[.pointer (some ⟨g, 0, none⟩), .int .i64 n, .int .i64 back] w fun e w' => e = .returned (.tuple #[]) ∧ CoderAt w' B g nt at_ (L ++ copyB n back) ∧ Fr w w' (SU B g w) := by
  have HC := Aside0.mk h
  have HLO := Aside0.mk (lens_ok hn.1 hn.2)
  have HDO := Aside0.mk (dist_ok hbk.1 hbk.2)
  clear h
  go_enter Try.func26, Try.ntmps26
  go_wp2_with fail
  refine (slengths_calls w).mono ?_
  rintro e w1 ⟨g1, rfl, ht1, hg1, hb1⟩
  have H1 : Aside0 (_ ∧ _) := ⟨ht1, hb1⟩
  clear ht1 hb1
  go_wp2_with fail
  refine (sdistances_calls w1).mono ?_
  rintro e w2 ⟨g2, rfl, ht2, hg2, hb2⟩
  have H2 : Aside0 (_ ∧ _ ∧ _) := ⟨H1.out.1.below hb2, ht2, H1.out.2.trans (hb2.mono H1.out.2.size)⟩
  have H3 := Aside0.mk (HC.out.below H2.out.2.2)
  clear ht2 hb2 H1 HC
  have hB2 : B ≤ w2.heap.size := Nat.le_trans hB H2.out.2.2.size
  have HF2 : Aside0 (Fr w w2 (SU B g w)) := ⟨Fr.of_below H2.out.2.2 _⟩
  go_wp2_with fail
  refine (scode_calls w2 ⟨g1, 0, none⟩ lensT g1 n H2.out.1.tab (by decide) 29).mono ?_
  rintro e w3 ⟨rfl, rfl⟩
  obtain ⟨k, hk⟩ : ∃ k, k = codeF lensT n := ⟨_, rfl⟩
  have HLO2 := HLO.out
  rw [← hk] at HLO2 ⊢
  have HK := Aside0.mk hk
  clear hk
  have hk29 := HLO2.1
  obtain ⟨c3, c4⟩ := H3.out.cells
  have HN1 := Aside0.mk (nearw_calls w2.drew B g nt at_ (257 + k) L (H3.out.drawn ⟨⟨1, rfl⟩⟩) hB2 (by omega) (by omega))
  have ecast : ((257 + k : Nat) : Int) = 257 + (k : Int) := by omega
  rw [ecast] at HN1
  clear ecast
  have hwr : IntKind.i64.wrap (257 + (k : Int)) = 257 + (k : Int) := IntWalk.i64_in _ (by omega)
  go_wp2_with fail
  go_region_with (go_at_call 25; (with_reducible refine HN1.out.mono ?_); rintro e w3 ⟨rfl, hc3, hf3⟩)
  have H4 : Aside0 (_ ∧ _ ∧ _ ∧ _) := ⟨hc3, H2.out.1.frU H3.out.wr (by decide) hf3.of_drew, H2.out.2.1.frU H3.out.wr (by decide) hf3.of_drew, HF2.out.su hf3.of_drew⟩
  have hB3 : B ≤ w3.heap.size := Nat.le_trans hB2 hf3.of_drew.size
  clear HN1 hc3 hf3 c3 c4 H2 H3 HF2
  have hl9 : (symB fixLit (257 + k)).length ≤ 9 := by
    unfold symB
    rw [s_revB_length]
    have := fixl_pos (257 + k) (by omega)
    omega
  obtain ⟨t1, t2⟩ := H4.out.2.1.tab.at_ k hk29
  obtain ⟨lb, hlb⟩ : ∃ lb, lb = lensT.getD k (0, 0) := ⟨_, rfl⟩
  rw [← hlb] at t1 t2 HLO2
  obtain ⟨A1, hA1⟩ : ∃ A1 : Addr, A1 = ⟨g1, 0, none⟩ := ⟨_, rfl⟩
  rw [← hA1] at t1 t2 ⊢
  have HLB : Aside0 (_ ∧ _) := ⟨hlb, hA1⟩
  have HP1 := Aside0.mk (cput_calls w3.drew B g nt at_ (n - lb.1) lb.2 (L ++ symB fixLit (257 + k)) (H4.out.1.drawn ⟨⟨1, rfl⟩⟩) hB3 HLO2.2.1 HLO2.2.2.1 (by omega) (by rw [List.length_append]; omega))
  obtain ⟨l1, l2⟩ := lb
  dsimp only at t1 t2 HP1
  dsimp only at HLO2
  have hpw := pow_le2 HLO2.2.2.2
  have hwn : IntKind.i64.wrap (n - l1) = n - l1 := IntWalk.i64_in _ (by omega)
  clear hlb hA1
  have ik0 : (0 : Int) ≤ (k : Int) := by omega
  have ik1 : (k : Int) < 29 := by omega
  go_wp2_with fail
  have HEE : Aside0 (∀ W, Fr w3 W (SU B g w3) → W.cell? (A1.add (k * 2)) = some (.int .i64 l1) ∧ W.cell? ⟨(A1.add (k * 2)).block, (A1.add (k * 2)).off + 1, none⟩ = some (.int .i64 (l2 : Int))) := ⟨fun W hf => by
    have := (H4.out.2.1.frU H4.out.1.wr (by decide) hf).tab.at_ k hk29
    rw [← HLB.out.1, ← HLB.out.2] at this
    exact this⟩
  go_region_held3 (fun w' => w'.cell? (A1.add (k * 2)) = some (.int .i64 l1) ∧ w'.cell? ⟨(A1.add (k * 2)).block, (A1.add (k * 2)).off + 1, none⟩ = some (.int .i64 (l2 : Int))) (first | exact ⟨t1, t2⟩ | exact ⟨e0, e1⟩) ((go_at_call 20; (with_reducible refine HP1.out.mono ?_); rintro e w4 ⟨rfl, hc4, hf4⟩; have ee := HEE.out w4 hf4.of_drew; have e0 := ee.1; have e1 := ee.2))
  have hL4 : (L ++ symB fixLit (257 + k) ++ bitsN (n - l1) l2).length ≤ L.length + 14 := by
    rw [List.length_append, List.length_append, bitsN_length]
    have := HLO2.2.2.2
    omega
  have H5 : Aside0 (_ ∧ _ ∧ _) := ⟨hc4, H4.out.2.2.1.frU H4.out.1.wr (by decide) hf4.of_drew, H4.out.2.2.2.su hf4.of_drew⟩
  have hB4 : B ≤ w4.heap.size := Nat.le_trans hB3 hf4.of_drew.size
  obtain ⟨L2, hL2⟩ : ∃ L2, L2 = L ++ symB fixLit (257 + k) ++ bitsN (n - l1) l2 := ⟨_, rfl⟩
  rw [← hL2] at H5 hL4
  have HL2 := Aside0.mk hL2
  clear e0 e1 ee HEE HP1 hc4 hf4 t1 t2 H4 hL2 hwn hpw hl9 hB3 hB2 HLO2 hwr hk29
  obtain ⟨A2, hA2⟩ : ∃ A2 : Addr, A2 = ⟨g2, 0, none⟩ := ⟨_, rfl⟩
  have HT2 : Aside0 (Tab w4 g2 A2 distT) := ⟨by rw [hA2]; exact H5.out.2.1.tab⟩
  rw [← hA2]
  have HA2 := Aside0.mk hA2
  clear hA2
  go_wp2_with fail
  refine (scode_calls w4 A2 distT g2 back HT2.out (by decide) 30).mono ?_
  rintro e w5 ⟨rfl, rfl⟩
  obtain ⟨d, hd⟩ : ∃ d, d = codeF distT back := ⟨_, rfl⟩
  have HDO2 := HDO.out
  rw [← hd] at HDO2 ⊢
  have HD := Aside0.mk hd
  clear hd
  have hd30 := HDO2.1
  obtain ⟨c3, c4⟩ := H5.out.1.cells
  have HN2 := Aside0.mk (awayw_calls w4.drew B g nt at_ d L2 (H5.out.1.drawn ⟨⟨1, rfl⟩⟩) hB4 (by omega) (by omega))
  go_wp2_with fail
  go_region_with (go_at_call 25; (with_reducible refine HN2.out.mono ?_); rintro e w6 ⟨rfl, hc6, hf6⟩)
  have H6 : Aside0 (_ ∧ _ ∧ _) := ⟨hc6, H5.out.2.1.frU H5.out.1.wr (by decide) hf6.of_drew, H5.out.2.2.su hf6.of_drew⟩
  have hB6 : B ≤ w6.heap.size := Nat.le_trans hB4 hf6.of_drew.size
  clear HN2 hc6 hf6 c3 c4 H5 HT2
  have hl9 : (symB fixDist d).length ≤ 9 := by
    unfold symB
    rw [s_revB_length]
    have := fixd_pos d (by omega)
    omega
  have HTB : Tab w6 g2 A2 distT := by rw [HA2.out]; exact H6.out.2.1.tab
  obtain ⟨t1, t2⟩ := HTB.at_ d hd30
  obtain ⟨lb, hlb⟩ : ∃ lb, lb = distT.getD d (0, 0) := ⟨_, rfl⟩
  rw [← hlb] at t1 t2 HDO2
  have HLB2 := Aside0.mk hlb
  have HP1 := Aside0.mk (cput_calls w6.drew B g nt at_ (back - lb.1) lb.2 (L2 ++ symB fixDist d) (H6.out.1.drawn ⟨⟨1, rfl⟩⟩) hB6 HDO2.2.1 HDO2.2.2.1 (by omega) (by rw [List.length_append]; omega))
  obtain ⟨m1, m2⟩ := lb
  dsimp only at t1 t2 HP1 HDO2
  have hpw := pow_le2 HDO2.2.2.2
  have hwn : IntKind.i64.wrap (back - m1) = back - m1 := IntWalk.i64_in _ (by omega)
  clear hlb HTB
  have id0 : (0 : Int) ≤ (d : Int) := by omega
  have id1 : (d : Int) < 30 := by omega
  go_wp2_with fail
  have HEE : Aside0 (∀ W, Fr w6 W (SU B g w6) → W.cell? (A2.add (d * 2)) = some (.int .i64 m1) ∧ W.cell? ⟨(A2.add (d * 2)).block, (A2.add (d * 2)).off + 1, none⟩ = some (.int .i64 (m2 : Int))) := ⟨fun W hf => by
    have := (H6.out.2.1.frU H6.out.1.wr (by decide) hf).tab.at_ d hd30
    rw [← HLB2.out, ← HA2.out] at this
    exact this⟩
  go_region_held3 (fun w' => w'.cell? (A2.add (d * 2)) = some (.int .i64 m1) ∧ w'.cell? ⟨(A2.add (d * 2)).block, (A2.add (d * 2)).off + 1, none⟩ = some (.int .i64 (m2 : Int))) (first | exact ⟨t1, t2⟩ | exact ⟨e0, e1⟩) ((go_at_call 20; (with_reducible refine HP1.out.mono ?_); rintro e w7 ⟨rfl, hc7, hf7⟩; have ee := HEE.out w7 hf7.of_drew; have e0 := ee.1; have e1 := ee.2))
  have HF : Aside0 (_ ∧ _) := ⟨hc7, H6.out.2.2.su hf7.of_drew⟩
  clear hc7 hf7 HP1
  go_wp2_with fail
  go_returns
  have e : L2 ++ symB fixDist d ++ bitsN (back - m1) m2 = L ++ copyB n back := by
    unfold copyB
    rw [← HK.out, ← HD.out, ← HLB.out.1, ← HLB2.out, HL2.out]
    simp only [List.append_assoc]
  rw [← e]
  exact ⟨rfl, HF.out⟩
end Go.Proofs.Ytfoicjlkbkjfjaa.Hand
namespace Go.Proofs.Ytfoicjlkbkjfjaa.Hand
open Go.RowKit Go.Proofs.YtfoicjlkbkjfjaaW.PrintWords Go.Proofs.YtfoicjlkbkjfjaaW.PrintLast Go.Proofs.YtfoicjlkbkjfjaaW.PrintMore Go.Proofs.Ytfoicjlkbkjfjaa.Num Go.Proofs.Ytfoicjlkbkjfjaa.Bits
set_option linter.unusedVariables false
set_option linter.unusedSimpArgs false
theorem s_reads_blk {w : World} {g : Nat} {t : TypeId} {cs : List Int} (h : w.heap[g]? = some (.cells (nums .i64 cs).toArray t (0, 0))) (hl : cs.length ≤ 9223372036854775807) : ReadsInt w .i64 (some ⟨g, 0, none⟩) cs.length cs :=
  ⟨rfl, hl, fun _ => ⟨_, rfl, fun j hj => by rw [Addr.add_lit, Nat.zero_add]; exact (blk_cell h j).trans (nums_at cs j hj)⟩⟩
theorem s_fixLit_at : ∀ i, i < 288 → fixLit.getD i 0 = if i < 144 ∨ 280 ≤ i then 8 else if i < 256 then 9 else 7 := by
  have h : (List.range 288).all (fun i => decide (fixLit.getD i 0 = if i < 144 ∨ 280 ≤ i then 8 else if i < 256 then 9 else 7)) = true := by decide +kernel
  intro i hi
  simpa using List.all_eq_true.1 h i (List.mem_range.2 hi)
/-- The first so many, the others 0. -/
def supto (l : List Int) (n i : Nat) : List Int := l.take i ++ List.replicate (n - i) 0
theorem s_upto_length (l : List Int) (n i : Nat) (hl : l.length = n) (hi : i ≤ n) : (supto l n i).length = n := by rw [supto, List.length_append, List.length_take, List.length_replicate]; omega
theorem s_upto_set (l : List Int) (n i : Nat) (hl : l.length = n) (hi : i < n) : (supto l n i).set i (l.getD i 0) = supto l n (i + 1) := by
  unfold supto
  rw [List.set_append_right _ _ (by rw [List.length_take]; omega), List.length_take, show i - min i l.length = 0 by omega, show n - i = (n - (i + 1)) + 1 by omega, List.replicate_succ, List.set_cons_zero, take_succ9 l i (by omega), List.append_assoc]
  rfl
theorem coder_wr {W : World} {B g : Nat} {p1 p2 : Value} (hb : W.heap[g]? = some (.cells #[.int .i64 0, .int .i64 0, .slice none 0 0, p1, p2] 46 (0, 0))) : WrAt W B g 46 [p1, p2] [] :=
  ⟨0, 0, _, [], hb, Row.nil _ _ _ _, Held.nil⟩
set_option maxRecDepth 100000 in
set_option maxHeartbeats 4000000 in
theorem newCoder_calls (w : World) : Calls Try.prog 23 #[] w fun e w' => ∃ g nt at_, e = .returned (.pointer (some ⟨g, 0, none⟩)) ∧ w.heap.size ≤ g ∧ CoderAt w' w.heap.size g nt at_ [] ∧ Below w.heap.size w w' := by
  go_enter Try.func23, Try.ntmps23
  go_wp2_with fail
  obtain ⟨a, ha⟩ : ∃ a, a = w.heap.size := ⟨_, rfl⟩
  generalize hW : World.alloc w _ = W1
  have hb1 : Below w.heap.size w W1 := by rw [← hW]; exact below_alloc (Below.refl _ _) _
  have hA : W1.heap[a]? = some (.cells (nums .i64 (supto fixLit 288 0)).toArray 83 (0, 0)) := by rw [← hW, ha]; exact heap_alloc_new w _
  have H1 : Aside0 (_ ∧ _) := ⟨hA, hb1⟩
  have hga : w.heap.size ≤ a := by omega
  rw [← ha]
  clear hW hA hb1 ha
  go_loopw [6] (fun v11 wr => ∃ (i : Nat), v11 = .int .i64 i ∧ i ≤ 288 ∧ Aside0 (wr.heap[a]? = some (.cells (nums .i64 (supto fixLit 288 i)).toArray 83 (0, 0)) ∧ Below w.heap.size w wr)) (fun v11 _ => 288 - (intOf v11).toNat)
  case atStart => exact ⟨0, rfl, by omega, H1⟩
  case round =>
    clear H1
    obtain ⟨i, rfl, hi, HW⟩ := hrel
    by_cases hlt : i < 288
    · have q1 : decide ((i : Int) < 288) = true := decide_eq_true (by omega)
      have q1n : decide (i < 288) = true := decide_eq_true hlt
      have hfl : fixLit.length = 288 := by decide +kernel
      have hul := s_upto_length fixLit 288 i hfl hi
      have hus := s_upto_set fixLit 288 i hfl hlt
      rw [s_fixLit_at i hlt] at hus
      obtain ⟨cs, hcs⟩ : ∃ cs, cs = supto fixLit 288 i := ⟨_, rfl⟩
      rw [← hcs] at hul hus HW
      have d1 : wr.cell? ⟨a, i, none⟩ = some (.int .i64 (cs.getD i 0)) := (blk_cell HW.out.1 i).trans (nums_at cs i (by omega))
      have d2 := blk_frozen HW.out.1 i
      have hix0 : (0 : Int) ≤ (i : Int) := by omega
      have hix1 : (i : Int) < 288 := by omega
      clear hcs hul hfl
      by_cases h144 : i < 144
      · have r1 : decide ((i : Int) < 144) = true := decide_eq_true (by omega)
        have r1n : decide (i < 144) = true := decide_eq_true h144
        rw [if_pos (.inl h144)] at hus
        have HU := Aside0.mk hus
        clear hus
        go_wp2_with fail
        go_roundw
        case rel => exact ⟨i + 1, by go_num, by omega, by rw [← HU.out]; refine (blk_set HW.out.1 i _).trans ?_; simp [nums, List.map_set], HW.out.2.setCell (p := ⟨a, i, none⟩) hga _⟩
        case measure => simp [intOf]; omega
      · have r1 : decide ((i : Int) < 144) = false := decide_eq_false (by omega)
        have r1n : decide (i < 144) = false := decide_eq_false h144
        by_cases h280 : 280 ≤ i
        · have r2 : decide (280 ≤ (i : Int)) = true := decide_eq_true (by omega)
          have r2n : decide (280 ≤ i) = true := decide_eq_true h280
          rw [if_pos (.inr h280)] at hus
          have HU := Aside0.mk hus
          clear hus
          go_wp2_with fail
          go_roundw
          case rel => exact ⟨i + 1, by go_num, by omega, by rw [← HU.out]; refine (blk_set HW.out.1 i _).trans ?_; simp [nums, List.map_set], HW.out.2.setCell (p := ⟨a, i, none⟩) hga _⟩
          case measure => simp [intOf]; omega
        · have r2 : decide (280 ≤ (i : Int)) = false := decide_eq_false (by omega)
          have r2n : decide (280 ≤ i) = false := decide_eq_false h280
          rw [if_neg (by omega)] at hus
          by_cases h256 : i < 256
          · have r3 : decide ((i : Int) < 256) = true := decide_eq_true (by omega)
            have r3n : decide (i < 256) = true := decide_eq_true h256
            rw [if_pos h256] at hus
            have HU := Aside0.mk hus
            clear hus
            go_wp2_with fail
            go_roundw
            case rel => exact ⟨i + 1, by go_num, by omega, by rw [← HU.out]; refine (blk_set HW.out.1 i _).trans ?_; simp [nums, List.map_set], HW.out.2.setCell (p := ⟨a, i, none⟩) hga _⟩
            case measure => simp [intOf]; omega
          · have r3 : decide ((i : Int) < 256) = false := decide_eq_false (by omega)
            have r3n : decide (i < 256) = false := decide_eq_false h256
            rw [if_neg h256] at hus
            have HU := Aside0.mk hus
            clear hus
            go_wp2_with fail
            go_roundw
            case rel => exact ⟨i + 1, by go_num, by omega, by rw [← HU.out]; refine (blk_set HW.out.1 i _).trans ?_; simp [nums, List.map_set], HW.out.2.setCell (p := ⟨a, i, none⟩) hga _⟩
            case measure => simp [intOf]; omega
    · have q1 : decide ((i : Int) < 288) = false := decide_eq_false (by omega)
      have q1n : decide (i < 288) = false := decide_eq_false hlt
      obtain rfl : i = 288 := by omega
      rw [show supto fixLit 288 288 = fixLit by decide +kernel] at HW
      obtain ⟨fl, hfl⟩ : ∃ fl, fl = fixLit := ⟨_, rfl⟩
      rw [← hfl] at HW ⊢
      have HFL := Aside0.mk hfl
      clear hfl hlt
      go_wp2_with fail
      obtain ⟨b, hb⟩ : ∃ b, b = wr.heap.size := ⟨_, rfl⟩
      generalize hW : World.alloc wr _ = W2
      have hb2 : Below wr.heap.size wr W2 := by rw [← hW]; exact below_alloc (Below.refl _ _) _
      have hA2 : W2.heap[b]? = some (.cells (nums .i64 (supto fixDist 32 0)).toArray 84 (0, 0)) := by rw [← hW, hb]; exact heap_alloc_new wr _
      have H2 : Aside0 (_ ∧ _ ∧ _) := ⟨blk_below HW.out.1 hb2, hA2, HW.out.2.trans (hb2.mono HW.out.2.size)⟩
      have hgb : w.heap.size ≤ b := by rw [hb]; exact HW.out.2.size
      have hab : a ≠ b := by have := blk_lt HW.out.1; omega
      rw [← hb]
      clear hW hA2 hb2 hb HW
      go_loopw [26] (fun v31 wr => ∃ (i : Nat), v31 = .int .i64 i ∧ i ≤ 32 ∧ Aside0 (wr.heap[a]? = some (.cells (nums .i64 fl).toArray 83 (0, 0)) ∧ wr.heap[b]? = some (.cells (nums .i64 (supto fixDist 32 i)).toArray 84 (0, 0)) ∧ Below w.heap.size w wr)) (fun v31 _ => 32 - (intOf v31).toNat)
      case atStart => exact ⟨0, rfl, by omega, H2⟩
      case round =>
        clear H2
        obtain ⟨i, rfl, hi, HW⟩ := hrel
        by_cases hlt : i < 32
        · have q1 : decide ((i : Int) < 32) = true := decide_eq_true (by omega)
          have q1n : decide (i < 32) = true := decide_eq_true hlt
          have hfl : fixDist.length = 32 := by decide +kernel
          have hul := s_upto_length fixDist 32 i hfl hi
          have hus := s_upto_set fixDist 32 i hfl hlt
          rw [show fixDist.getD i 0 = 5 by unfold fixDist; rw [List.getD_eq_getElem?_getD, List.getElem?_replicate, if_pos hlt]; rfl] at hus
          obtain ⟨cs, hcs⟩ : ∃ cs, cs = supto fixDist 32 i := ⟨_, rfl⟩
          rw [← hcs] at hul hus HW
          have d1 : wr.cell? ⟨b, i, none⟩ = some (.int .i64 (cs.getD i 0)) := (blk_cell HW.out.2.1 i).trans (nums_at cs i (by omega))
          have d2 := blk_frozen HW.out.2.1 i
          have hix0 : (0 : Int) ≤ (i : Int) := by omega
          have hix1 : (i : Int) < 32 := by omega
          have HU := Aside0.mk hus
          clear hcs hul hfl hus
          go_wp2_with fail
          go_roundw
          case rel => exact ⟨i + 1, by go_num, by omega, (heap_setCell_other _ _ _ _ (show a ≠ b from hab)).trans HW.out.1, by rw [← HU.out]; refine (blk_set HW.out.2.1 i _).trans ?_; simp [nums, List.map_set], HW.out.2.2.setCell (p := ⟨b, i, none⟩) hgb _⟩
          case measure => simp [intOf]; omega
        · have q1 : decide ((i : Int) < 32) = false := decide_eq_false (by omega)
          have q1n : decide (i < 32) = false := decide_eq_false hlt
          obtain rfl : i = 32 := by omega
          rw [show supto fixDist 32 32 = fixDist by decide +kernel] at HW
          obtain ⟨fd, hfd⟩ : ∃ fd, fd = fixDist := ⟨_, rfl⟩
          rw [← hfd] at HW ⊢
          have hll : fl.length = 288 := by rw [HFL.out]; decide +kernel
          have hdl : fd.length = 32 := by rw [hfd]; decide +kernel
          have hml : mayF fl = 0 := by rw [HFL.out]; exact fixl_may
          have hmd : mayF fd = 0 := by rw [hfd]; exact fixd_may
          have K1 := fun (W : World) (h : Below wr.heap.size wr W) => new_ok (some ⟨a, 0, none⟩) 288 fl W (s_reads_blk (blk_below HW.out.1 h) (by omega)) (by omega) hml
          have K2 := fun (W : World) (h : Below wr.heap.size wr W) => new_ok (some ⟨b, 0, none⟩) 32 fd W (s_reads_blk (blk_below HW.out.2.1 h) (by omega)) (by omega) hmd
          rw [hll] at K1
          rw [hdl] at K2
          have K1 := Aside0.mk K1
          have K2 := Aside0.mk K2
          have HFD := Aside0.mk hfd
          have HBw := Aside0.mk HW.out.2.2
          clear hll hdl hml hmd hfd hlt HW
          go_wp2_with fail
          have hg0 := blk_new wr (.cells #[.int .i64 0, .int .i64 0, .slice none 0 0, .pointer none, .pointer none] 46)
          have hB0 := below_alloc (Below.refl wr.heap.size wr) (.cells #[.int .i64 0, .int .i64 0, .slice none 0 0, .pointer none, .pointer none] 46)
          have hgw : w.heap.size ≤ wr.heap.size := HBw.out.size
          have hgs : wr.heap.size < (wr.alloc (.cells #[.int .i64 0, .int .i64 0, .slice none 0 0, .pointer none, .pointer none] 46)).heap.size := blk_lt hg0
          generalize (wr.alloc (.cells #[.int .i64 0, .int .i64 0, .slice none 0 0, .pointer none, .pointer none] 46)) = W3 at *
          refine (K1.out W3 hB0).mono ?_
          rintro e w1 ⟨ta, rfl, ht1, htb1, hb1⟩
          have hg1 := blk_below hg0 hb1
          have c3 : w1.cell? ⟨wr.heap.size, 3, none⟩ = some (.pointer none) := (blk_cell hg1 3).trans (by simp)
          have f3 := blk_frozen hg1 3
          have hB1 : Below wr.heap.size wr w1 := hB0.trans (hb1.mono hB0.size)
          have hT1 : Tr w1 w.heap.size ta fixLit := by rw [← HFL.out]; exact TreeAt.lower ht1 (by omega)
          have hW1 := coder_wr (B := w.heap.size) hg1
          have hF1 : Fr w1 (w1.setCell ⟨wr.heap.size, 3, none⟩ (.pointer (some ⟨ta, 0, none⟩))) (· = wr.heap.size) := (Fr.refl _ _).set1 3 _
          have hT2 : Tr (w1.setCell ⟨wr.heap.size, 3, none⟩ (.pointer (some ⟨ta, 0, none⟩))) w.heap.size ta fixLit := TreeAt.fr hT1 hW1 hF1.suOf coder_other
          have hg2 : (w1.setCell ⟨wr.heap.size, 3, none⟩ (.pointer (some ⟨ta, 0, none⟩))).heap[wr.heap.size]? = some (.cells #[.int .i64 0, .int .i64 0, .slice none 0 0, .pointer (some ⟨ta, 0, none⟩), .pointer none] 46 (0, 0)) := (blk_set hg1 3 _).trans (by simp)
          have hB2 : Below wr.heap.size wr (w1.setCell ⟨wr.heap.size, 3, none⟩ (.pointer (some ⟨ta, 0, none⟩))) := hB1.setCell (p := ⟨wr.heap.size, 3, none⟩) (Nat.le_refl _) _
          have H2 : Aside0 (_ ∧ _ ∧ _) := ⟨hT2, hg2, hB2⟩
          clear ht1 htb1 hb1 hg0 hB0 K1 hT1 hW1 hF1 hT2 hg2 hB2 hB1 hg1 hgs
          go_wp2_with fail
          refine (K2.out _ H2.out.2.2).mono ?_
          rintro e w2 ⟨tb, rfl, ht1, htb1, hb1⟩
          generalize (w1.setCell ⟨wr.heap.size, 3, none⟩ (.pointer (some ⟨ta, 0, none⟩))) = W4 at *
          have hg1 := blk_below H2.out.2.1 hb1
          have c4 : w2.cell? ⟨wr.heap.size, 4, none⟩ = some (.pointer none) := (blk_cell hg1 4).trans (by simp)
          have f4 := blk_frozen hg1 4
          have hB1 : Below wr.heap.size wr w2 := H2.out.2.2.trans (hb1.mono H2.out.2.2.size)
          have hTb : Tr w2 w.heap.size tb fixDist := by rw [← HFD.out]; exact TreeAt.lower ht1 (by have := blk_lt H2.out.2.1; omega)
          have hTa : Tr w2 w.heap.size ta fixLit := TreeAt.below H2.out.1 hb1
          have hW1 := coder_wr (B := w.heap.size) hg1
          have hF1 : Fr w2 (w2.setCell ⟨wr.heap.size, 4, none⟩ (.pointer (some ⟨tb, 0, none⟩))) (· = wr.heap.size) := (Fr.refl _ _).set1 4 _
          have HE : Aside0 (_ ∧ _) := ⟨(⟨coder_wr ((blk_set hg1 4 (.pointer (some ⟨tb, 0, none⟩))).trans (by simp)), TreeAt.fr hTa hW1 hF1.suOf coder_other, TreeAt.fr hTb hW1 hF1.suOf coder_other⟩ : CoderAt (w2.setCell ⟨wr.heap.size, 4, none⟩ (.pointer (some ⟨tb, 0, none⟩))) w.heap.size wr.heap.size ta tb []),
            HBw.out.trans ((hB1.setCell (p := ⟨wr.heap.size, 4, none⟩) (Nat.le_refl _) (.pointer (some ⟨tb, 0, none⟩))).mono HBw.out.size)⟩
          clear ht1 htb1 hb1 hg1 hTa hTb hW1 hF1 hB1 K2 H2 c3 f3
          go_wp2_with fail
          go_returns
          exact ⟨wr.heap.size, ta, tb, rfl, hgw, HE.out⟩
end Go.Proofs.Ytfoicjlkbkjfjaa.Hand
