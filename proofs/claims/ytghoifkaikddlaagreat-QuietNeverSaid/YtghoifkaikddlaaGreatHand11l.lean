/- Squeeze: the coder in memory; a symbol, a copy; walked by hand. Squeeze: a new coder; walked by hand. Squeeze: Fixed; walked by hand. Squeeze: Stored; walked by hand. Squeeze: Stored and Fixed in the print's own form; what any text's own are is told. -/
import Derived.Test.YtghoifkaikddlaaGreatHand11g
import Derived.Test.YtghoifkaikddlaaGreatInf
import Derived.Carry
namespace Go.Proofs.YtghoifkaikddlaaGreat.Hand
open Go.RowKit Go.Proofs.YtghoifkaikddlaaGreatW.PrintWords Go.Proofs.YtghoifkaikddlaaGreatW.PrintLast Go.Proofs.YtghoifkaikddlaaGreatW.PrintMore Go.Proofs.YtghoifkaikddlaaGreat.Num Go.Proofs.YtghoifkaikddlaaGreat.Bits
set_option linter.unusedVariables false
set_option linter.unusedSimpArgs false
structure CoderAt (w : World) (B g nt at_ : Nat) (L : List Int) : Prop where
  wr : WrAt w B g 141 [.pointer (some ⟨nt, 0, none⟩), .pointer (some ⟨at_, 0, none⟩)] L
  near : Tr w B nt fixLit
  away : Tr w B at_ fixDist
theorem coder_other : OtherT 141 := ⟨by decide, by decide, by decide⟩
theorem CoderAt.fr {w w1 : World} {B g nt at_ : Nat} {L L1 : List Int} (h : CoderAt w B g nt at_ L) (hf : Fr w w1 (SU B g w)) (hw : WrAt w1 B g 141 [.pointer (some ⟨nt, 0, none⟩), .pointer (some ⟨at_, 0, none⟩)] L1) : CoderAt w1 B g nt at_ L1 :=
  ⟨hw, TreeAt.fr h.near h.wr hf coder_other, TreeAt.fr h.away h.wr hf coder_other⟩
theorem CoderAt.below {w w1 : World} {B g nt at_ : Nat} {L : List Int} (h : CoderAt w B g nt at_ L) (hb : Below w.heap.size w w1) : CoderAt w1 B g nt at_ L := ⟨h.wr.below hb, TreeAt.below h.near hb, TreeAt.below h.away hb⟩
theorem CoderAt.drawn {w w1 : World} {B g nt at_ : Nat} {L : List Int} (h : CoderAt w B g nt at_ L) (hd : Drawn0 w w1) : CoderAt w1 B g nt at_ L := ⟨h.wr.drawn hd, TreeAt.drawn h.near hd, TreeAt.drawn h.away hd⟩
theorem CoderAt.cells {w : World} {B g nt at_ : Nat} {L : List Int} (h : CoderAt w B g nt at_ L) : w.cell? ⟨g, 3, none⟩ = some (.pointer (some ⟨nt, 0, none⟩)) ∧ w.cell? ⟨g, 4, none⟩ = some (.pointer (some ⟨at_, 0, none⟩)) := by
  obtain ⟨x, m, v, xs, hb, _⟩ := h.wr.open_
  exact ⟨(blk_cell hb 3).trans (by simp), (blk_cell hb 4).trans (by simp)⟩
theorem fixl_may : mayF fixLit = 0 := by decide +kernel
theorem fixd_may : mayF fixDist = 0 := by decide +kernel
theorem fixl_pos : ∀ i, i < 288 → 0 < fixLit.getD i 0 ∧ fixLit.getD i 0 ≤ 9 := by
  have h : (List.range 288).all (fun i => decide (0 < fixLit.getD i 0 ∧ fixLit.getD i 0 ≤ 9)) = true := by decide +kernel
  intro i hi
  simpa using List.all_eq_true.1 h i (List.mem_range.2 hi)
theorem fixd_pos : ∀ i, i < 32 → 0 < fixDist.getD i 0 ∧ fixDist.getD i 0 ≤ 9 := by
  have h : (List.range 32).all (fun i => decide (0 < fixDist.getD i 0 ∧ fixDist.getD i 0 ≤ 9)) = true := by decide +kernel
  intro i hi
  simpa using List.all_eq_true.1 h i (List.mem_range.2 hi)
theorem s_revB_length (c : Int) : ∀ n, (revB c n).length = n
  | 0 => rfl
  | n + 1 => by rw [revB, List.length_cons, s_revB_length c n]
theorem sym_calls (w : World) (B tb g k : Nat) (l L : List Int) (t : TypeId) (post : List Value) (hm : mayF l = 0) (hT : Tr w B tb l) (hW : WrAt w B g t post L) (ht : OtherT t) (hB : B ≤ w.heap.size) (hk : k < l.length) (h0 : 0 < l.getD k 0) (hL : L.length ≤ 10000000) :
    Calls Tryz.prog 127 #[.pointer (some ⟨tb, 0, none⟩), .pointer (some ⟨g, 0, none⟩), .int .i64 (k : Int)] w fun e w' => e = .returned (.int .i64 0) ∧ WrAt w' B g t post (L ++ symB l k) ∧ Fr w w' (SU B g w) := by
  have hn : l.getD k 0 = ((l.getD k 0).toNat : Int) := by omega
  obtain ⟨_, _, c1, c2, c3⟩ := code_between hm k hk _ hn (by omega)
  have c4 := pow_le2 c1
  exact write_ok w B tb g l (codesF l) (cntL l) (symA l 16) (lgA l 16) k _ L hT hW hB hk (by rw [codesF_length hm]; exact hk) hn (by omega) c1 c3 (by omega) hL ht
theorem nearw_calls (w : World) (B g nt at_ k : Nat) (L : List Int) (h : CoderAt w B g nt at_ L) (hB : B ≤ w.heap.size) (hk : k < 288) (hL : L.length ≤ 10000000) :
    Calls Tryz.prog 127 #[.pointer (some ⟨nt, 0, none⟩), .pointer (some ⟨g, 0, none⟩), .int .i64 (k : Int)] w fun e w' => e = .returned (.int .i64 0) ∧ CoderAt w' B g nt at_ (L ++ symB fixLit k) ∧ Fr w w' (SU B g w) :=
  (sym_calls w B nt g k fixLit L _ _ fixl_may h.near h.wr coder_other hB (by have : fixLit.length = 288 := by decide +kernel
                                                                             omega) (fixl_pos k hk).1 hL).mono (by rintro e w1 ⟨rfl, h1, h2⟩; exact ⟨rfl, h.fr h2 h1, h2⟩)
theorem awayw_calls (w : World) (B g nt at_ k : Nat) (L : List Int) (h : CoderAt w B g nt at_ L) (hB : B ≤ w.heap.size) (hk : k < 32) (hL : L.length ≤ 10000000) :
    Calls Tryz.prog 127 #[.pointer (some ⟨at_, 0, none⟩), .pointer (some ⟨g, 0, none⟩), .int .i64 (k : Int)] w fun e w' => e = .returned (.int .i64 0) ∧ CoderAt w' B g nt at_ (L ++ symB fixDist k) ∧ Fr w w' (SU B g w) :=
  (sym_calls w B at_ g k fixDist L _ _ fixd_may h.away h.wr coder_other hB (by have : fixDist.length = 32 := by decide +kernel
                                                                               omega) (fixd_pos k hk).1 hL).mono (by rintro e w1 ⟨rfl, h1, h2⟩; exact ⟨rfl, h.fr h2 h1, h2⟩)
theorem cput_calls (w : World) (B g nt at_ : Nat) (n : Int) (k : Nat) (L : List Int) (h : CoderAt w B g nt at_ L) (hB : B ≤ w.heap.size) (hn0 : 0 ≤ n) (hn : n < 2 ^ k) (hk : k ≤ 16) (hL : L.length ≤ 10000000) :
    Calls Tryz.prog 125 #[.pointer (some ⟨g, 0, none⟩), .int .i64 n, .int .i64 (k : Int)] w fun e w' => e = .returned (.int .i64 0) ∧ CoderAt w' B g nt at_ (L ++ bitsN n k) ∧ Fr w w' (SU B g w) :=
  (wr_put w B g _ _ L n k h.wr (by decide) hn0 hn hk (by omega) hB).mono (by rintro e w1 ⟨rfl, h1, h2⟩; exact ⟨rfl, h.fr h2 h1, h2⟩)
theorem TabAt.frU {w w1 : World} {B g g0 : Nat} {T : List (Int × Nat)} {t : TypeId} {post : List Value} {L : List Int} (h : TabAt w g0 T) (hW : WrAt w B g t post L) (ht : 184 ≠ t) (hf : Fr w w1 (SU B g w)) : TabAt w1 g0 T := by
  refine hf.blk h ?_
  obtain ⟨x, m, u, xs, q1, _⟩ := hW.open_
  rintro (rfl | ⟨_, c2, fr, h2⟩)
  · unfold TabAt at h; rw [h] at q1; injection q1 with q1; injection q1 with _ q1; exact absurd q1 ht
  · unfold TabAt at h; rw [h] at h2; injection h2 with h2; injection h2 with _ h2; exact absurd h2 (by decide)
theorem TabAt.below {w w1 : World} {g0 : Nat} {T : List (Int × Nat)} (h : TabAt w g0 T) (hb : Below w.heap.size w w1) : TabAt w1 g0 T := blk_below h hb
set_option maxRecDepth 100000 in
set_option maxHeartbeats 4000000 in
theorem copied_calls (w : World) (B g nt at_ : Nat) (n back : Int) (L : List Int) (h : CoderAt w B g nt at_ L) (hB : B ≤ w.heap.size) (hn : 3 ≤ n ∧ n ≤ 258) (hbk : 1 ≤ back ∧ back ≤ 32768) (hL : L.length ≤ 9000000) :
    Calls Tryz.prog 128 #[.pointer (some ⟨g, 0, none⟩), .int .i64 n, .int .i64 back] w fun e w' => e = .returned (.tuple #[]) ∧ CoderAt w' B g nt at_ (L ++ copyB n back) ∧ Fr w w' (SU B g w) := by
  have HC := Aside0.mk h
  have HLO := Aside0.mk (lens_ok hn.1 hn.2)
  have HDO := Aside0.mk (dist_ok hbk.1 hbk.2)
  clear h
  go_enter Tryz.func128, Tryz.ntmps128
  go_wp2_with fail
  refine (slengths_calls w).mono ?_
  rintro e w1 ⟨g1, rfl, ht1, hg1, hb1⟩
  have H1 : Aside0 (_ ∧ _) := ⟨ht1, hb1⟩
  clear ht1 hb1
  go_wp2_with fail
  refine (sdistances_calls w1).mono ?_
  rintro e w2 ⟨g2, rfl, ht2, hg2, hb2⟩
  have H2 : Aside0 (_ ∧ _ ∧ _) := ⟨H1.out.1.below hb2, ht2, H1.out.2.trans (hb2.mono H1.out.2.size)⟩
  have H3 := Aside0.mk (HC.out.below H2.out.2.2)
  clear ht2 hb2 H1 HC
  have hB2 : B ≤ w2.heap.size := Nat.le_trans hB H2.out.2.2.size
  have HF2 : Aside0 (Fr w w2 (SU B g w)) := ⟨Fr.of_below H2.out.2.2 _⟩
  go_wp2_with fail
  refine (scode_calls w2 ⟨g1, 0, none⟩ lensT g1 n H2.out.1.tab (by decide) 29).mono ?_
  rintro e w3 ⟨rfl, rfl⟩
  obtain ⟨k, hk⟩ : ∃ k, k = codeF lensT n := ⟨_, rfl⟩
  have HLO2 := HLO.out
  rw [← hk] at HLO2 ⊢
  have HK := Aside0.mk hk
  clear hk
  have hk29 := HLO2.1
  obtain ⟨c3, c4⟩ := H3.out.cells
  have HN1 := Aside0.mk (nearw_calls w2.drew B g nt at_ (257 + k) L (H3.out.drawn ⟨⟨1, rfl⟩⟩) hB2 (by omega) (by omega))
  have ecast : ((257 + k : Nat) : Int) = 257 + (k : Int) := by omega
  rw [ecast] at HN1
  clear ecast
  have hwr : IntKind.i64.wrap (257 + (k : Int)) = 257 + (k : Int) := IntWalk.i64_in _ (by omega)
  go_wp2_with fail
  go_region_with (go_at_call 127; (with_reducible refine HN1.out.mono ?_); rintro e w3 ⟨rfl, hc3, hf3⟩)
  have H4 : Aside0 (_ ∧ _ ∧ _ ∧ _) := ⟨hc3, H2.out.1.frU H3.out.wr (by decide) hf3.of_drew, H2.out.2.1.frU H3.out.wr (by decide) hf3.of_drew, HF2.out.su hf3.of_drew⟩
  have hB3 : B ≤ w3.heap.size := Nat.le_trans hB2 hf3.of_drew.size
  clear HN1 hc3 hf3 c3 c4 H2 H3 HF2
  have hl9 : (symB fixLit (257 + k)).length ≤ 9 := by
    unfold symB
    rw [s_revB_length]
    have := fixl_pos (257 + k) (by omega)
    omega
  obtain ⟨t1, t2⟩ := H4.out.2.1.tab.at_ k hk29
  obtain ⟨lb, hlb⟩ : ∃ lb, lb = lensT.getD k (0, 0) := ⟨_, rfl⟩
  rw [← hlb] at t1 t2 HLO2
  obtain ⟨A1, hA1⟩ : ∃ A1 : Addr, A1 = ⟨g1, 0, none⟩ := ⟨_, rfl⟩
  rw [← hA1] at t1 t2 ⊢
  have HLB : Aside0 (_ ∧ _) := ⟨hlb, hA1⟩
  have HP1 := Aside0.mk (cput_calls w3.drew B g nt at_ (n - lb.1) lb.2 (L ++ symB fixLit (257 + k)) (H4.out.1.drawn ⟨⟨1, rfl⟩⟩) hB3 HLO2.2.1 HLO2.2.2.1 (by omega) (by rw [List.length_append]; omega))
  obtain ⟨l1, l2⟩ := lb
  dsimp only at t1 t2 HP1
  dsimp only at HLO2
  have hpw := pow_le2 HLO2.2.2.2
  have hwn : IntKind.i64.wrap (n - l1) = n - l1 := IntWalk.i64_in _ (by omega)
  clear hlb hA1
  have ik0 : (0 : Int) ≤ (k : Int) := by omega
  have ik1 : (k : Int) < 29 := by omega
  go_wp2_with fail
  have HEE : Aside0 (∀ W, Fr w3 W (SU B g w3) → W.cell? (A1.add (k * 2)) = some (.int .i64 l1) ∧ W.cell? ⟨(A1.add (k * 2)).block, (A1.add (k * 2)).off + 1, none⟩ = some (.int .i64 (l2 : Int))) := ⟨fun W hf => by
    have := (H4.out.2.1.frU H4.out.1.wr (by decide) hf).tab.at_ k hk29
    rw [← HLB.out.1, ← HLB.out.2] at this
    exact this⟩
  go_region_held3 (fun w' => w'.cell? (A1.add (k * 2)) = some (.int .i64 l1) ∧ w'.cell? ⟨(A1.add (k * 2)).block, (A1.add (k * 2)).off + 1, none⟩ = some (.int .i64 (l2 : Int))) (first | exact ⟨t1, t2⟩ | exact ⟨e0, e1⟩) ((go_at_call 125; (with_reducible refine HP1.out.mono ?_); rintro e w4 ⟨rfl, hc4, hf4⟩; have ee := HEE.out w4 hf4.of_drew; have e0 := ee.1; have e1 := ee.2))
  have hL4 : (L ++ symB fixLit (257 + k) ++ bitsN (n - l1) l2).length ≤ L.length + 14 := by
    rw [List.length_append, List.length_append, bitsN_length]
    have := HLO2.2.2.2
    omega
  have H5 : Aside0 (_ ∧ _ ∧ _) := ⟨hc4, H4.out.2.2.1.frU H4.out.1.wr (by decide) hf4.of_drew, H4.out.2.2.2.su hf4.of_drew⟩
  have hB4 : B ≤ w4.heap.size := Nat.le_trans hB3 hf4.of_drew.size
  obtain ⟨L2, hL2⟩ : ∃ L2, L2 = L ++ symB fixLit (257 + k) ++ bitsN (n - l1) l2 := ⟨_, rfl⟩
  rw [← hL2] at H5 hL4
  have HL2 := Aside0.mk hL2
  clear e0 e1 ee HEE HP1 hc4 hf4 t1 t2 H4 hL2 hwn hpw hl9 hB3 hB2 HLO2 hwr hk29
  obtain ⟨A2, hA2⟩ : ∃ A2 : Addr, A2 = ⟨g2, 0, none⟩ := ⟨_, rfl⟩
  have HT2 : Aside0 (Tab w4 g2 A2 distT) := ⟨by rw [hA2]; exact H5.out.2.1.tab⟩
  rw [← hA2]
  have HA2 := Aside0.mk hA2
  clear hA2
  go_wp2_with fail
  refine (scode_calls w4 A2 distT g2 back HT2.out (by decide) 30).mono ?_
  rintro e w5 ⟨rfl, rfl⟩
  obtain ⟨d, hd⟩ : ∃ d, d = codeF distT back := ⟨_, rfl⟩
  have HDO2 := HDO.out
  rw [← hd] at HDO2 ⊢
  have HD := Aside0.mk hd
  clear hd
  have hd30 := HDO2.1
  obtain ⟨c3, c4⟩ := H5.out.1.cells
  have HN2 := Aside0.mk (awayw_calls w4.drew B g nt at_ d L2 (H5.out.1.drawn ⟨⟨1, rfl⟩⟩) hB4 (by omega) (by omega))
  go_wp2_with fail
  go_region_with (go_at_call 127; (with_reducible refine HN2.out.mono ?_); rintro e w6 ⟨rfl, hc6, hf6⟩)
  have H6 : Aside0 (_ ∧ _ ∧ _) := ⟨hc6, H5.out.2.1.frU H5.out.1.wr (by decide) hf6.of_drew, H5.out.2.2.su hf6.of_drew⟩
  have hB6 : B ≤ w6.heap.size := Nat.le_trans hB4 hf6.of_drew.size
  clear HN2 hc6 hf6 c3 c4 H5 HT2
  have hl9 : (symB fixDist d).length ≤ 9 := by
    unfold symB
    rw [s_revB_length]
    have := fixd_pos d (by omega)
    omega
  have HTB : Tab w6 g2 A2 distT := by rw [HA2.out]; exact H6.out.2.1.tab
  obtain ⟨t1, t2⟩ := HTB.at_ d hd30
  obtain ⟨lb, hlb⟩ : ∃ lb, lb = distT.getD d (0, 0) := ⟨_, rfl⟩
  rw [← hlb] at t1 t2 HDO2
  have HLB2 := Aside0.mk hlb
  have HP1 := Aside0.mk (cput_calls w6.drew B g nt at_ (back - lb.1) lb.2 (L2 ++ symB fixDist d) (H6.out.1.drawn ⟨⟨1, rfl⟩⟩) hB6 HDO2.2.1 HDO2.2.2.1 (by omega) (by rw [List.length_append]; omega))
  obtain ⟨m1, m2⟩ := lb
  dsimp only at t1 t2 HP1 HDO2
  have hpw := pow_le2 HDO2.2.2.2
  have hwn : IntKind.i64.wrap (back - m1) = back - m1 := IntWalk.i64_in _ (by omega)
  clear hlb HTB
  have id0 : (0 : Int) ≤ (d : Int) := by omega
  have id1 : (d : Int) < 30 := by omega
  go_wp2_with fail
  have HEE : Aside0 (∀ W, Fr w6 W (SU B g w6) → W.cell? (A2.add (d * 2)) = some (.int .i64 m1) ∧ W.cell? ⟨(A2.add (d * 2)).block, (A2.add (d * 2)).off + 1, none⟩ = some (.int .i64 (m2 : Int))) := ⟨fun W hf => by
    have := (H6.out.2.1.frU H6.out.1.wr (by decide) hf).tab.at_ d hd30
    rw [← HLB2.out, ← HA2.out] at this
    exact this⟩
  go_region_held3 (fun w' => w'.cell? (A2.add (d * 2)) = some (.int .i64 m1) ∧ w'.cell? ⟨(A2.add (d * 2)).block, (A2.add (d * 2)).off + 1, none⟩ = some (.int .i64 (m2 : Int))) (first | exact ⟨t1, t2⟩ | exact ⟨e0, e1⟩) ((go_at_call 125; (with_reducible refine HP1.out.mono ?_); rintro e w7 ⟨rfl, hc7, hf7⟩; have ee := HEE.out w7 hf7.of_drew; have e0 := ee.1; have e1 := ee.2))
  have HF : Aside0 (_ ∧ _) := ⟨hc7, H6.out.2.2.su hf7.of_drew⟩
  clear hc7 hf7 HP1
  go_wp2_with fail
  go_returns
  have e : L2 ++ symB fixDist d ++ bitsN (back - m1) m2 = L ++ copyB n back := by
    unfold copyB
    rw [← HK.out, ← HD.out, ← HLB.out.1, ← HLB2.out, HL2.out]
    simp only [List.append_assoc]
  rw [← e]
  exact ⟨rfl, HF.out⟩
end Go.Proofs.YtghoifkaikddlaaGreat.Hand
namespace Go.Proofs.YtghoifkaikddlaaGreat.Hand
open Go.RowKit Go.Proofs.YtghoifkaikddlaaGreatW.PrintWords Go.Proofs.YtghoifkaikddlaaGreatW.PrintLast Go.Proofs.YtghoifkaikddlaaGreatW.PrintMore Go.Proofs.YtghoifkaikddlaaGreat.Num Go.Proofs.YtghoifkaikddlaaGreat.Bits
set_option linter.unusedVariables false
set_option linter.unusedSimpArgs false
theorem s_reads_blk {w : World} {g : Nat} {t : TypeId} {cs : List Int} (h : w.heap[g]? = some (.cells (nums .i64 cs).toArray t (0, 0))) (hl : cs.length ≤ 9223372036854775807) : ReadsInt w .i64 (some ⟨g, 0, none⟩) cs.length cs :=
  ⟨rfl, hl, fun _ => ⟨_, rfl, fun j hj => by rw [Addr.add_lit, Nat.zero_add]; exact (blk_cell h j).trans (nums_at cs j hj)⟩⟩
theorem s_fixLit_at : ∀ i, i < 288 → fixLit.getD i 0 = if i < 144 ∨ 280 ≤ i then 8 else if i < 256 then 9 else 7 := by
  have h : (List.range 288).all (fun i => decide (fixLit.getD i 0 = if i < 144 ∨ 280 ≤ i then 8 else if i < 256 then 9 else 7)) = true := by decide +kernel
  intro i hi
  simpa using List.all_eq_true.1 h i (List.mem_range.2 hi)
def supto (l : List Int) (n i : Nat) : List Int := l.take i ++ List.replicate (n - i) 0
theorem s_upto_length (l : List Int) (n i : Nat) (hl : l.length = n) (hi : i ≤ n) : (supto l n i).length = n := by rw [supto, List.length_append, List.length_take, List.length_replicate]; omega
theorem s_upto_set (l : List Int) (n i : Nat) (hl : l.length = n) (hi : i < n) : (supto l n i).set i (l.getD i 0) = supto l n (i + 1) := by
  unfold supto
  rw [List.set_append_right _ _ (by rw [List.length_take]; omega), List.length_take, show i - min i l.length = 0 by omega, show n - i = (n - (i + 1)) + 1 by omega, List.replicate_succ, List.set_cons_zero, take_succ9 l i (by omega), List.append_assoc]
  rfl
theorem coder_wr {W : World} {B g : Nat} {p1 p2 : Value} (hb : W.heap[g]? = some (.cells #[.int .i64 0, .int .i64 0, .slice none 0 0, p1, p2] 141 (0, 0))) : WrAt W B g 141 [p1, p2] [] :=
  ⟨0, 0, _, [], hb, Row.nil _ _ _ _, Held.nil⟩
set_option maxRecDepth 100000 in
set_option maxHeartbeats 4000000 in
theorem newCoder_calls (w : World) : Calls Tryz.prog 124 #[] w fun e w' => ∃ g nt at_, e = .returned (.pointer (some ⟨g, 0, none⟩)) ∧ w.heap.size ≤ g ∧ CoderAt w' w.heap.size g nt at_ [] ∧ Below w.heap.size w w' := by
  go_enter Tryz.func124, Tryz.ntmps124
  go_wp2_with fail
  obtain ⟨a, ha⟩ : ∃ a, a = w.heap.size := ⟨_, rfl⟩
  generalize hW : World.alloc w _ = W1
  have hb1 : Below w.heap.size w W1 := by rw [← hW]; exact below_alloc (Below.refl _ _) _
  have hA : W1.heap[a]? = some (.cells (nums .i64 (supto fixLit 288 0)).toArray 172 (0, 0)) := by rw [← hW, ha]; exact heap_alloc_new w _
  have H1 : Aside0 (_ ∧ _) := ⟨hA, hb1⟩
  have hga : w.heap.size ≤ a := by omega
  rw [← ha]
  clear hW hA hb1 ha
  go_loopw [6] (fun v11 wr => ∃ (i : Nat), v11 = .int .i64 i ∧ i ≤ 288 ∧ Aside0 (wr.heap[a]? = some (.cells (nums .i64 (supto fixLit 288 i)).toArray 172 (0, 0)) ∧ Below w.heap.size w wr)) (fun v11 _ => 288 - (intOf v11).toNat)
  case atStart => exact ⟨0, rfl, by omega, H1⟩
  case round =>
    clear H1
    obtain ⟨i, rfl, hi, HW⟩ := hrel
    by_cases hlt : i < 288
    · have q1 : decide ((i : Int) < 288) = true := decide_eq_true (by omega)
      have q1n : decide (i < 288) = true := decide_eq_true hlt
      have hfl : fixLit.length = 288 := by decide +kernel
      have hul := s_upto_length fixLit 288 i hfl hi
      have hus := s_upto_set fixLit 288 i hfl hlt
      rw [s_fixLit_at i hlt] at hus
      obtain ⟨cs, hcs⟩ : ∃ cs, cs = supto fixLit 288 i := ⟨_, rfl⟩
      rw [← hcs] at hul hus HW
      have d1 : wr.cell? ⟨a, i, none⟩ = some (.int .i64 (cs.getD i 0)) := (blk_cell HW.out.1 i).trans (nums_at cs i (by omega))
      have d2 := blk_frozen HW.out.1 i
      have hix0 : (0 : Int) ≤ (i : Int) := by omega
      have hix1 : (i : Int) < 288 := by omega
      clear hcs hul hfl
      by_cases h144 : i < 144
      · have r1 : decide ((i : Int) < 144) = true := decide_eq_true (by omega)
        have r1n : decide (i < 144) = true := decide_eq_true h144
        rw [if_pos (.inl h144)] at hus
        have HU := Aside0.mk hus
        clear hus
        go_wp2_with fail
        go_roundw
        case rel => exact ⟨i + 1, by go_num, by omega, by rw [← HU.out]; refine (blk_set HW.out.1 i _).trans ?_; simp [nums, List.map_set], HW.out.2.setCell (p := ⟨a, i, none⟩) hga _⟩
        case measure => simp [intOf]; omega
      · have r1 : decide ((i : Int) < 144) = false := decide_eq_false (by omega)
        have r1n : decide (i < 144) = false := decide_eq_false h144
        by_cases h280 : 280 ≤ i
        · have r2 : decide (280 ≤ (i : Int)) = true := decide_eq_true (by omega)
          have r2n : decide (280 ≤ i) = true := decide_eq_true h280
          rw [if_pos (.inr h280)] at hus
          have HU := Aside0.mk hus
          clear hus
          go_wp2_with fail
          go_roundw
          case rel => exact ⟨i + 1, by go_num, by omega, by rw [← HU.out]; refine (blk_set HW.out.1 i _).trans ?_; simp [nums, List.map_set], HW.out.2.setCell (p := ⟨a, i, none⟩) hga _⟩
          case measure => simp [intOf]; omega
        · have r2 : decide (280 ≤ (i : Int)) = false := decide_eq_false (by omega)
          have r2n : decide (280 ≤ i) = false := decide_eq_false h280
          rw [if_neg (by omega)] at hus
          by_cases h256 : i < 256
          · have r3 : decide ((i : Int) < 256) = true := decide_eq_true (by omega)
            have r3n : decide (i < 256) = true := decide_eq_true h256
            rw [if_pos h256] at hus
            have HU := Aside0.mk hus
            clear hus
            go_wp2_with fail
            go_roundw
            case rel => exact ⟨i + 1, by go_num, by omega, by rw [← HU.out]; refine (blk_set HW.out.1 i _).trans ?_; simp [nums, List.map_set], HW.out.2.setCell (p := ⟨a, i, none⟩) hga _⟩
            case measure => simp [intOf]; omega
          · have r3 : decide ((i : Int) < 256) = false := decide_eq_false (by omega)
            have r3n : decide (i < 256) = false := decide_eq_false h256
            rw [if_neg h256] at hus
            have HU := Aside0.mk hus
            clear hus
            go_wp2_with fail
            go_roundw
            case rel => exact ⟨i + 1, by go_num, by omega, by rw [← HU.out]; refine (blk_set HW.out.1 i _).trans ?_; simp [nums, List.map_set], HW.out.2.setCell (p := ⟨a, i, none⟩) hga _⟩
            case measure => simp [intOf]; omega
    · have q1 : decide ((i : Int) < 288) = false := decide_eq_false (by omega)
      have q1n : decide (i < 288) = false := decide_eq_false hlt
      obtain rfl : i = 288 := by omega
      rw [show supto fixLit 288 288 = fixLit by decide +kernel] at HW
      obtain ⟨fl, hfl⟩ : ∃ fl, fl = fixLit := ⟨_, rfl⟩
      rw [← hfl] at HW ⊢
      have HFL := Aside0.mk hfl
      clear hfl hlt
      go_wp2_with fail
      obtain ⟨b, hb⟩ : ∃ b, b = wr.heap.size := ⟨_, rfl⟩
      generalize hW : World.alloc wr _ = W2
      have hb2 : Below wr.heap.size wr W2 := by rw [← hW]; exact below_alloc (Below.refl _ _) _
      have hA2 : W2.heap[b]? = some (.cells (nums .i64 (supto fixDist 32 0)).toArray 173 (0, 0)) := by rw [← hW, hb]; exact heap_alloc_new wr _
      have H2 : Aside0 (_ ∧ _ ∧ _) := ⟨blk_below HW.out.1 hb2, hA2, HW.out.2.trans (hb2.mono HW.out.2.size)⟩
      have hgb : w.heap.size ≤ b := by rw [hb]; exact HW.out.2.size
      have hab : a ≠ b := by have := blk_lt HW.out.1; omega
      rw [← hb]
      clear hW hA2 hb2 hb HW
      go_loopw [26] (fun v31 wr => ∃ (i : Nat), v31 = .int .i64 i ∧ i ≤ 32 ∧ Aside0 (wr.heap[a]? = some (.cells (nums .i64 fl).toArray 172 (0, 0)) ∧ wr.heap[b]? = some (.cells (nums .i64 (supto fixDist 32 i)).toArray 173 (0, 0)) ∧ Below w.heap.size w wr)) (fun v31 _ => 32 - (intOf v31).toNat)
      case atStart => exact ⟨0, rfl, by omega, H2⟩
      case round =>
        clear H2
        obtain ⟨i, rfl, hi, HW⟩ := hrel
        by_cases hlt : i < 32
        · have q1 : decide ((i : Int) < 32) = true := decide_eq_true (by omega)
          have q1n : decide (i < 32) = true := decide_eq_true hlt
          have hfl : fixDist.length = 32 := by decide +kernel
          have hul := s_upto_length fixDist 32 i hfl hi
          have hus := s_upto_set fixDist 32 i hfl hlt
          rw [show fixDist.getD i 0 = 5 by unfold fixDist; rw [List.getD_eq_getElem?_getD, List.getElem?_replicate, if_pos hlt]; rfl] at hus
          obtain ⟨cs, hcs⟩ : ∃ cs, cs = supto fixDist 32 i := ⟨_, rfl⟩
          rw [← hcs] at hul hus HW
          have d1 : wr.cell? ⟨b, i, none⟩ = some (.int .i64 (cs.getD i 0)) := (blk_cell HW.out.2.1 i).trans (nums_at cs i (by omega))
          have d2 := blk_frozen HW.out.2.1 i
          have hix0 : (0 : Int) ≤ (i : Int) := by omega
          have hix1 : (i : Int) < 32 := by omega
          have HU := Aside0.mk hus
          clear hcs hul hfl hus
          go_wp2_with fail
          go_roundw
          case rel => exact ⟨i + 1, by go_num, by omega, (heap_setCell_other _ _ _ _ (show a ≠ b from hab)).trans HW.out.1, by rw [← HU.out]; refine (blk_set HW.out.2.1 i _).trans ?_; simp [nums, List.map_set], HW.out.2.2.setCell (p := ⟨b, i, none⟩) hgb _⟩
          case measure => simp [intOf]; omega
        · have q1 : decide ((i : Int) < 32) = false := decide_eq_false (by omega)
          have q1n : decide (i < 32) = false := decide_eq_false hlt
          obtain rfl : i = 32 := by omega
          rw [show supto fixDist 32 32 = fixDist by decide +kernel] at HW
          obtain ⟨fd, hfd⟩ : ∃ fd, fd = fixDist := ⟨_, rfl⟩
          rw [← hfd] at HW ⊢
          have hll : fl.length = 288 := by rw [HFL.out]; decide +kernel
          have hdl : fd.length = 32 := by rw [hfd]; decide +kernel
          have hml : mayF fl = 0 := by rw [HFL.out]; exact fixl_may
          have hmd : mayF fd = 0 := by rw [hfd]; exact fixd_may
          have K1 := fun (W : World) (h : Below wr.heap.size wr W) => new_ok (some ⟨a, 0, none⟩) 288 fl W (s_reads_blk (blk_below HW.out.1 h) (by omega)) (by omega) hml
          have K2 := fun (W : World) (h : Below wr.heap.size wr W) => new_ok (some ⟨b, 0, none⟩) 32 fd W (s_reads_blk (blk_below HW.out.2.1 h) (by omega)) (by omega) hmd
          rw [hll] at K1
          rw [hdl] at K2
          have K1 := Aside0.mk K1
          have K2 := Aside0.mk K2
          have HFD := Aside0.mk hfd
          have HBw := Aside0.mk HW.out.2.2
          clear hll hdl hml hmd hfd hlt HW
          go_wp2_with fail
          have hg0 := blk_new wr (.cells #[.int .i64 0, .int .i64 0, .slice none 0 0, .pointer none, .pointer none] 141)
          have hB0 := below_alloc (Below.refl wr.heap.size wr) (.cells #[.int .i64 0, .int .i64 0, .slice none 0 0, .pointer none, .pointer none] 141)
          have hgw : w.heap.size ≤ wr.heap.size := HBw.out.size
          have hgs : wr.heap.size < (wr.alloc (.cells #[.int .i64 0, .int .i64 0, .slice none 0 0, .pointer none, .pointer none] 141)).heap.size := blk_lt hg0
          generalize (wr.alloc (.cells #[.int .i64 0, .int .i64 0, .slice none 0 0, .pointer none, .pointer none] 141)) = W3 at *
          refine (K1.out W3 hB0).mono ?_
          rintro e w1 ⟨ta, rfl, ht1, htb1, hb1⟩
          have hg1 := blk_below hg0 hb1
          have c3 : w1.cell? ⟨wr.heap.size, 3, none⟩ = some (.pointer none) := (blk_cell hg1 3).trans (by simp)
          have f3 := blk_frozen hg1 3
          have hB1 : Below wr.heap.size wr w1 := hB0.trans (hb1.mono hB0.size)
          have hT1 : Tr w1 w.heap.size ta fixLit := by rw [← HFL.out]; exact TreeAt.lower ht1 (by omega)
          have hW1 := coder_wr (B := w.heap.size) hg1
          have hF1 : Fr w1 (w1.setCell ⟨wr.heap.size, 3, none⟩ (.pointer (some ⟨ta, 0, none⟩))) (· = wr.heap.size) := (Fr.refl _ _).set1 3 _
          have hT2 : Tr (w1.setCell ⟨wr.heap.size, 3, none⟩ (.pointer (some ⟨ta, 0, none⟩))) w.heap.size ta fixLit := TreeAt.fr hT1 hW1 hF1.suOf coder_other
          have hg2 : (w1.setCell ⟨wr.heap.size, 3, none⟩ (.pointer (some ⟨ta, 0, none⟩))).heap[wr.heap.size]? = some (.cells #[.int .i64 0, .int .i64 0, .slice none 0 0, .pointer (some ⟨ta, 0, none⟩), .pointer none] 141 (0, 0)) := (blk_set hg1 3 _).trans (by simp)
          have hB2 : Below wr.heap.size wr (w1.setCell ⟨wr.heap.size, 3, none⟩ (.pointer (some ⟨ta, 0, none⟩))) := hB1.setCell (p := ⟨wr.heap.size, 3, none⟩) (Nat.le_refl _) _
          have H2 : Aside0 (_ ∧ _ ∧ _) := ⟨hT2, hg2, hB2⟩
          clear ht1 htb1 hb1 hg0 hB0 K1 hT1 hW1 hF1 hT2 hg2 hB2 hB1 hg1 hgs
          go_wp2_with fail
          refine (K2.out _ H2.out.2.2).mono ?_
          rintro e w2 ⟨tb, rfl, ht1, htb1, hb1⟩
          generalize (w1.setCell ⟨wr.heap.size, 3, none⟩ (.pointer (some ⟨ta, 0, none⟩))) = W4 at *
          have hg1 := blk_below H2.out.2.1 hb1
          have c4 : w2.cell? ⟨wr.heap.size, 4, none⟩ = some (.pointer none) := (blk_cell hg1 4).trans (by simp)
          have f4 := blk_frozen hg1 4
          have hB1 : Below wr.heap.size wr w2 := H2.out.2.2.trans (hb1.mono H2.out.2.2.size)
          have hTb : Tr w2 w.heap.size tb fixDist := by rw [← HFD.out]; exact TreeAt.lower ht1 (by have := blk_lt H2.out.2.1; omega)
          have hTa : Tr w2 w.heap.size ta fixLit := TreeAt.below H2.out.1 hb1
          have hW1 := coder_wr (B := w.heap.size) hg1
          have hF1 : Fr w2 (w2.setCell ⟨wr.heap.size, 4, none⟩ (.pointer (some ⟨tb, 0, none⟩))) (· = wr.heap.size) := (Fr.refl _ _).set1 4 _
          have HE : Aside0 (_ ∧ _) := ⟨(⟨coder_wr ((blk_set hg1 4 (.pointer (some ⟨tb, 0, none⟩))).trans (by simp)), TreeAt.fr hTa hW1 hF1.suOf coder_other, TreeAt.fr hTb hW1 hF1.suOf coder_other⟩ : CoderAt (w2.setCell ⟨wr.heap.size, 4, none⟩ (.pointer (some ⟨tb, 0, none⟩))) w.heap.size wr.heap.size ta tb []),
            HBw.out.trans ((hB1.setCell (p := ⟨wr.heap.size, 4, none⟩) (Nat.le_refl _) (.pointer (some ⟨tb, 0, none⟩))).mono HBw.out.size)⟩
          clear ht1 htb1 hb1 hg1 hTa hTb hW1 hF1 hB1 K2 H2 c3 f3
          go_wp2_with fail
          go_returns
          exact ⟨wr.heap.size, ta, tb, rfl, hgw, HE.out⟩
end Go.Proofs.YtghoifkaikddlaaGreat.Hand
namespace Go.Proofs.YtghoifkaikddlaaGreat.Hand
open Go.RowKit Go.Proofs.YtghoifkaikddlaaGreatW.PrintWords Go.Proofs.YtghoifkaikddlaaGreatW.PrintLast Go.Proofs.YtghoifkaikddlaaGreatW.PrintMore Go.Proofs.YtghoifkaikddlaaGreat.Num Go.Proofs.YtghoifkaikddlaaGreat.Bits
set_option linter.unusedVariables false
set_option linter.unusedSimpArgs false
theorem FindAt.frU {w w1 : World} {B B2 g x : Nat} {s : ByteArray} {d : Nat} {t : TypeId} {post : List Value} {L : List Int} (h : FindAt w B2 x s d) (hW : WrAt w B g t post L) (ht : OtherT t) (htf : 146 ≠ t) (hBB : B ≤ B2) (hf : Fr w w1 (SU B g w)) : FindAt w1 B2 x s d := by
  obtain ⟨mb, v, l, h1, h2, h3, h4, h5⟩ := h.open_
  obtain ⟨y, m, u, xs, q1, _⟩ := hW.open_
  refine ⟨mb, v, l, hf.blk h1 ?_, h2.fr hf (row_su (h2.lower hBB) hW ht), h3, h4, h5.fr hf ?_⟩
  · rintro (rfl | ⟨_, c2, fr, e2⟩)
    · rw [h1] at q1; injection q1 with q1; injection q1 with _ q1; exact absurd q1 htf
    · rw [h1] at e2; injection e2 with e2; injection e2 with _ e2; exact absurd e2 (by decide)
  · rintro (rfl | ⟨_, c2, fr, e2⟩)
    · exact h5.ne q1 rfl
    · exact h5.ne e2 rfl
theorem WrAt.frF {w w1 : World} {B B2 g x : Nat} {s : ByteArray} {d : Nat} {t : TypeId} {post : List Value} {L : List Int} (hW : WrAt w B g t post L) (h : FindAt w B2 x s d) (htf : 146 ≠ t) (hg : g < B2) (hf : Fr w w1 (SF B2 x w)) : WrAt w1 B g t post L := by
  obtain ⟨mb, v, l, h1, _⟩ := h.open_
  obtain ⟨y, m, u, xs, q1, _⟩ := hW.open_
  refine hW.fr hf ?_ ?_
  · rintro (rfl | ⟨hb, _⟩)
    · rw [h1] at q1; injection q1 with q1; injection q1 with _ q1; exact absurd q1 htf
    · omega
  · rintro k ⟨cs, fr, hc⟩ (rfl | ⟨_, ⟨c2, f2, hi⟩ | ⟨es, c, hm⟩⟩)
    · rw [h1] at hc; injection hc with hc; injection hc with _ hc; exact absurd hc (by decide)
    · rw [hc] at hi; injection hi with hi; injection hi with _ hi; exact absurd hi (by decide)
    · rw [hc] at hm; cases hm
theorem Fr.suF {w w1 w2 : World} {B B2 g x : Nat} (h : Fr w w1 (SU B g w)) (k : Fr w1 w2 (SF B2 x w1)) (h2 : w.heap.size ≤ B2) (hx : w.heap.size ≤ x) : Fr w w2 (SU B g w) :=
  h.trans k (fun j hj hs => by rcases hs with rfl | ⟨hb, _⟩ <;> omega)
structure FxAt (w3 W : World) (B g nt at_ x : Nat) (s : ByteArray) (a : Nat) (L : List Int) : Prop where
  wr : WrAt W B g 141 [.pointer (some ⟨nt, 0, none⟩), .pointer (some ⟨at_, 0, none⟩)] L
  fd : ∃ d, d ≤ a ∧ FindAt W w3.heap.size x s d
  fr : Fr w3 W (SU B g w3)
theorem FxAt.coder {w3 W : World} {B g nt at_ x : Nat} {s : ByteArray} {a : Nat} {L L0 : List Int} (h : FxAt w3 W B g nt at_ x s a L) (h0 : CoderAt w3 B g nt at_ L0) : CoderAt W B g nt at_ L :=
  ⟨h.wr, TreeAt.fr h0.near h0.wr h.fr coder_other, TreeAt.fr h0.away h0.wr h.fr coder_other⟩
theorem FxAt.step {w3 W W1 : World} {B g nt at_ x : Nat} {s : ByteArray} {a : Nat} {L L1 : List Int} (h : FxAt w3 W B g nt at_ x s a L) (hc : CoderAt W1 B g nt at_ L1) (hf : Fr W W1 (SU B g W)) (hB : B ≤ w3.heap.size) : FxAt w3 W1 B g nt at_ x s a L1 := by
  obtain ⟨d, hd, hF⟩ := h.fd
  exact ⟨hc.wr, ⟨d, hd, hF.frU h.wr coder_other (by decide) hB hf⟩, h.fr.su hf⟩
theorem fixG_eq (s : ByteArray) (a : Nat) (h : a ≤ s.size) : fixG s (s.size + 1 - a) a = if a < s.size then (if (findF s a).1 < 3 then symB fixLit (bt s a).toNat ++ fixG s (s.size + 1 - (a + 1)) (a + 1) else copyB (findF s a).1 (findF s a).2 ++ fixG s (s.size + 1 - (a + (findF s a).1)) (a + (findF s a).1)) else symB fixLit 256 := by
  rw [show s.size + 1 - a = (s.size - a) + 1 by omega, fixG]
  have hf := (find_le s a h).2
  split
  · split
    · rw [show s.size + 1 - (a + 1) = s.size - a by omega]
    · rw [fixG_more s (s.size - a) (s.size + 1 - (a + (findF s a).1)) _ hf (by omega) (by omega)]
  · rfl
theorem symB_le (k : Nat) (h : k < 288) : (symB fixLit k).length ≤ 9 := by
  unfold symB
  rw [s_revB_length]
  have := fixl_pos k h
  omega
theorem copyB_le {n back : Int} (hn : 3 ≤ n ∧ n ≤ 258) (hb : 1 ≤ back ∧ back ≤ 32768) : (copyB n back).length ≤ 36 := by
  have h1 := lens_ok hn.1 hn.2
  have h2 := dist_ok hb.1 hb.2
  have h3 := symB_le (257 + codeF lensT n) (by omega)
  have h4 : (symB fixDist (codeF distT back)).length ≤ 9 := by
    unfold symB
    rw [s_revB_length]
    have := fixd_pos (codeF distT back) (by omega)
    omega
  unfold copyB
  simp only [List.length_append, bitsN_length]
  omega
set_option maxRecDepth 100000 in
set_option maxHeartbeats 4000000 in
theorem sfixed_calls (w : World) (s : ByteArray) (hs : s.size ≤ 100000) :
    Calls Tryz.prog 102 #[.string s] w fun e w' => e = .returned (.string (fixF s)) ∧ Below w.heap.size w w' := by
  have hmm := @run_makeMap Tryz.prog
  go_enter Tryz.func102, Tryz.ntmps102
  go_wp2_with fail
  refine wp_scope_straight ?_
  go_wp2_with fail
  refine (newCoder_calls w).mono ?_
  rintro e w1 ⟨g, nt, at_, rfl, hg, hc1, hb1⟩
  have H1 : Aside0 (_ ∧ _) := ⟨hc1, hb1⟩
  have hB1 := hb1.size
  clear hc1 hb1
  go_wp2_with fail
  refine (cput_calls w1 w.heap.size g nt at_ 1 1 [] H1.out.1 hB1 (by decide) (by decide) (by decide) (by decide)).mono ?_
  rintro e w2 ⟨rfl, hc2, hf2⟩
  have hB2 : w.heap.size ≤ w2.heap.size := Nat.le_trans hB1 hf2.size
  have H2 : Aside0 (_ ∧ _) := ⟨hc2, H1.out.2.trans (hf2.below (by rintro k (rfl | h); exact hg; exact h.1) hB1)⟩
  clear hc2 hf2 H1
  go_wp2_with fail
  refine (cput_calls w2 w.heap.size g nt at_ 1 2 _ H2.out.1 hB2 (by decide) (by decide) (by decide) (by decide)).mono ?_
  rintro e w3 ⟨rfl, hc3, hf3⟩
  have hB3 : w.heap.size ≤ w3.heap.size := Nat.le_trans hB2 hf3.size
  have H3 : Aside0 (_ ∧ _) := ⟨hc3, H2.out.2.trans (hf3.below (by rintro k (rfl | h); exact hg; exact h.1) hB2)⟩
  clear hc3 hf3 H2
  go_wp2_with fail
  refine wp_label ?_
  go_wp2_with fail
  have hg3 : g < w3.heap.size := by
    obtain ⟨y, m, u, xs, q1, _⟩ := H3.out.1.wr.open_
    exact blk_lt q1
  have HX0 : Aside0 (FxAt w3 ((w3.alloc (.map #[] 0)).alloc (.cells #[.string s, .map (some w3.heap.size), .slice none 0 0, .int .i64 0] 146)) w.heap.size g nt at_ (w3.heap.size + 1) s 0 ([] ++ bitsN 1 1 ++ bitsN 1 2)) := ⟨by
    have hb : Below w3.heap.size w3 ((w3.alloc (.map #[] 0)).alloc (.cells #[.string s, .map (some w3.heap.size), .slice none 0 0, .int .i64 0] 146)) := below_alloc (below_alloc (Below.refl _ _) _) _
    refine ⟨H3.out.1.wr.below hb, ⟨0, Nat.le_refl _, w3.heap.size, .slice none 0 0, [], ?_, Row.nil _ _ _ _, rfl, fun i hi => absurd hi (Nat.not_lt_zero _), ?_⟩, Fr.of_below hb _⟩
    · have := blk_new (w3.alloc (.map #[] 0)) (.cells #[.string s, .map (some w3.heap.size), .slice none 0 0, .int .i64 0] 146)
      rw [show (w3.alloc (.map #[] 0)).heap.size = w3.heap.size + 1 by simp] at this
      exact this
    · exact (MapAt.made w3 w3.heap.size (Nat.le_refl _)).fr ((Fr.refl (w3.alloc (.map #[] 0)) (fun _ => False)).alloc _) (fun h => h)⟩
  have H0 := Aside0.mk H3.out.1
  have HBL := Aside0.mk H3.out.2
  generalize ((w3.alloc (.map #[] 0)).alloc (.cells #[.string s, .map (some w3.heap.size), .slice none 0 0, .int .i64 0] 146)) = W4 at *
  have hx2 : w3.heap.size ≤ w3.heap.size + 1 := Nat.le_succ _
  clear H3 hmm hB1 hB2
  go_loopw [5] (fun v5 wr => ∃ (a : Nat) (L : List Int), v5 = .int .i64 (a : Int) ∧ a ≤ s.size ∧ L.length ≤ 40 * a + 3 ∧ Aside0 (FxAt w3 wr w.heap.size g nt at_ (w3.heap.size + 1) s a L ∧ L ++ fixG s (s.size + 1 - a) a = fixBits s)) (fun v5 _ => s.size - (intOf v5).toNat)
  case atStart => exact ⟨0, _, rfl, by omega, by decide, ⟨HX0.out, rfl⟩⟩
  case round =>
    clear HX0
    obtain ⟨a, L, rfl, ha, hLa, HR⟩ := hrel
    by_cases hlt : a < s.size
    · have q1 : decide ((a : Int) < (s.size : Int)) = true := decide_eq_true (by omega)
      have q1n : decide (a < s.size) = true := decide_eq_true hlt
      obtain ⟨d, hd, hF⟩ := HR.out.1.fd
      have HFC := Aside0.mk (ffind_calls wr w3.heap.size (w3.heap.size + 1) s d a hF hd (by omega) hs HR.out.1.fr.size)
      have HFT := Aside0.mk hF
      have heq := HR.out.2
      rw [fixG_eq s a ha, if_pos hlt] at heq
      have hfo := find_ok s a ha
      have hfl := find_le s a ha
      obtain ⟨n, hn⟩ : ∃ n, n = (findF s a).1 := ⟨_, rfl⟩
      obtain ⟨bk, hbk⟩ : ∃ bk, bk = (findF s a).2 := ⟨_, rfl⟩
      rw [← hn, ← hbk] at heq hfo HFC
      rw [← hn] at hfl
      have HEQ := Aside0.mk heq
      clear hF heq hn hbk
      go_wp2_with fail
      refine HFC.out.mono ?_
      rintro e w5 ⟨rfl, hF5, hf5⟩
      have HX5 : Aside0 (FxAt w3 w5 w.heap.size g nt at_ (w3.heap.size + 1) s a L) := ⟨⟨HR.out.1.wr.frF HFT.out (by decide) hg3 hf5, ⟨a, Nat.le_refl _, hF5⟩, HR.out.1.fr.suF hf5 (Nat.le_refl _) hx2⟩⟩
      have HC5 := Aside0.mk (HX5.out.coder H0.out)
      have hB5 : w.heap.size ≤ w5.heap.size := Nat.le_trans hB3 HX5.out.fr.size
      clear HFC hF5 hf5 HFT HR
      by_cases hn3 : n < 3
      · have q2 : decide ((n : Int) < 3) = true := decide_eq_true (by omega)
        have q2n : decide (n < 3) = true := decide_eq_true hn3
        have heq := HEQ.out
        rw [if_pos hn3] at heq
        have hby := bt_byte s (a : Int)
        have a0 : a < s.size := hlt
        have n0 : (s[a].toNat : Int) = bt s (a : Int) := (bt_nat s a a0).symm
        obtain ⟨y, hy⟩ : ∃ y, y = bt s (a : Int) := ⟨_, rfl⟩
        rw [← hy] at hby n0 heq
        obtain ⟨c3, c4⟩ := HC5.out.cells
        have HN := nearw_calls w5.drew w.heap.size g nt at_ y.toNat L (HC5.out.drawn ⟨⟨1, rfl⟩⟩) hB5 (by omega) (by omega)
        rw [show ((y.toNat : Nat) : Int) = y by omega] at HN
        have HN := Aside0.mk HN
        have HEQ2 := Aside0.mk heq
        have hl9 := symB_le y.toNat (by omega)
        have qw : IntKind.i64.wrap y = y := IntWalk.i64_in _ (by omega)
        clear hy heq HEQ c4
        go_wp2_with fail
        go_region_held3 (fun w' => w'.cell? ⟨g, 3, none⟩ = some (.pointer (some ⟨nt, 0, none⟩))) (first | exact c3 | exact e3) ((go_at_call 127; (with_reducible refine HN.out.mono ?_); rintro e w6 ⟨rfl, hc6, hf6⟩; have e3 := hc6.cells.1))
        have HX6 := Aside0.mk (HX5.out.step hc6 hf6.of_drew hB3)
        clear HN hc6 hf6 e3 c3
        go_wp2_with fail
        go_roundw
        case rel =>
          obtain ⟨d, hd, hF⟩ := HX6.out.fd
          exact ⟨a + 1, _, by go_num, by omega, by rw [List.length_append]; omega, ⟨⟨HX6.out.wr, ⟨d, by omega, hF⟩, HX6.out.fr⟩, by rw [List.append_assoc]; exact HEQ2.out⟩⟩
        case measure => simp [intOf]; omega
      · have q2 : decide ((n : Int) < 3) = false := decide_eq_false (by omega)
        have q2n : decide (n < 3) = false := decide_eq_false hn3
        have heq := HEQ.out
        rw [if_neg hn3] at heq
        have hbr : 1 ≤ bk ∧ bk ≤ 32768 := by
          rcases hfo with h | h
          · omega
          · exact ⟨h.1, h.2.2.1⟩
        have HN := Aside0.mk (copied_calls w5 w.heap.size g nt at_ (n : Int) (bk : Int) L HC5.out hB5 (by omega) (by omega) (by omega))
        have hl9 := copyB_le (n := (n : Int)) (back := (bk : Int)) (by omega) (by omega)
        have HEQ2 := Aside0.mk heq
        clear heq HEQ hfo
        go_wp2_with fail
        refine HN.out.mono ?_
        rintro e w6 ⟨rfl, hc6, hf6⟩
        have HX6 := Aside0.mk (HX5.out.step hc6 hf6 hB3)
        clear HN hc6 hf6
        go_wp2_with fail
        go_roundw
        case rel =>
          obtain ⟨d, hd, hF⟩ := HX6.out.fd
          exact ⟨a + n, _, by go_num, by omega, by rw [List.length_append]; omega, ⟨⟨HX6.out.wr, ⟨d, by omega, hF⟩, HX6.out.fr⟩, by rw [List.append_assoc]; exact HEQ2.out⟩⟩
        case measure => simp [intOf]; omega
    · have q1 : decide ((a : Int) < (s.size : Int)) = false := decide_eq_false (by omega)
      have q1n : decide (a < s.size) = false := decide_eq_false hlt
      have heq := HR.out.2
      rw [fixG_eq s a ha, if_neg hlt] at heq
      have HC5 := Aside0.mk (HR.out.1.coder H0.out)
      have hB5 : w.heap.size ≤ wr.heap.size := Nat.le_trans hB3 HR.out.1.fr.size
      have HN := nearw_calls wr.drew w.heap.size g nt at_ 256 L (HC5.out.drawn ⟨⟨1, rfl⟩⟩) hB5 (by omega) (by omega)
      rw [show ((256 : Nat) : Int) = 256 from rfl] at HN
      have HN := Aside0.mk HN
      obtain ⟨c3, c4⟩ := HC5.out.cells
      have HEQ := Aside0.mk heq
      clear heq c4
      go_wp2_with fail
      go_region_held3 (fun w' => w'.cell? ⟨g, 3, none⟩ = some (.pointer (some ⟨nt, 0, none⟩))) (first | exact c3 | exact e3) ((go_at_call 127; (with_reducible refine HN.out.mono ?_); rintro e w6 ⟨rfl, hc6, hf6⟩; have e3 := hc6.cells.1))
      have hl9 := symB_le 256 (by omega)
      have HT := Aside0.mk (wr_text w6 w.heap.size g _ _ _ hc6.wr (by rw [List.length_append]; omega))
      have HB6 : Aside0 (Below w.heap.size w w6) := ⟨HBL.out.trans ((HR.out.1.fr.su hf6.of_drew).suBelow hg (Nat.le_refl _) hB3)⟩
      clear HN hc6 hf6 e3 c3
      go_wp2_with fail
      refine HT.out.mono ?_
      rintro e w7 ⟨t, rfl, ht, hb7⟩
      go_wp2_with fail
      repeat (rw [Exit.noGoto_ret])
      go_returns
      rw [HEQ.out] at ht
      obtain rfl := TextOf.textL ht
      exact ⟨rfl, HB6.out.trans (hb7.mono HB6.out.size)⟩
end Go.Proofs.YtghoifkaikddlaaGreat.Hand
namespace Go.Proofs.YtghoifkaikddlaaGreat.Hand
open Go.RowKit Go.Proofs.YtghoifkaikddlaaGreatW.PrintWords Go.Proofs.YtghoifkaikddlaaGreatW.PrintLast Go.Proofs.YtghoifkaikddlaaGreatW.PrintMore Go.Proofs.YtghoifkaikddlaaGreat.Num Go.Proofs.YtghoifkaikddlaaGreat.Bits
set_option linter.unusedVariables false
set_option linter.unusedSimpArgs false
theorem s_xor (a : Nat) (h : a < 65536) : bits .xor .i64 65535 (a : Int) = 65535 - (a : Int) := by
  have h3 : 65535 ^^^ a = 65535 - a := by
    refine Nat.eq_of_testBit_eq (fun i => ?_)
    rw [Nat.testBit_xor, show 65535 - a = 2 ^ 16 - (a + 1) by omega, Nat.testBit_two_pow_sub_succ (by omega), show (65535 : Nat) = 2 ^ 16 - 1 from rfl, Nat.testBit_two_pow_sub_one]
    by_cases hi : i < 16
    · simp [hi]
    · have : a.testBit i = false := Nat.testBit_lt_two_pow (Nat.lt_of_lt_of_le h (Nat.pow_le_pow_right (n := 2) (i := 16) (by decide) (by omega)))
      simp [hi, this]
  have h2 : (BitVec.ofInt 64 (a : Int)).toNat = a := by rw [BitVec.ofInt_natCast, BitVec.toNat_ofNat]; exact Nat.mod_eq_of_lt (by omega)
  have h1 : (BitVec.ofInt 64 (65535 : Int)).toNat = 65535 := by decide
  show IntKind.i64.wrap ((BitVec.ofInt 64 (65535 : Int) ^^^ BitVec.ofInt 64 (a : Int)).toNat : Int) = _
  rw [BitVec.toNat_xor, h1, h2, IntKind.wrap_i64, h3]
  omega
theorem bytes_extract_succ (s : ByteArray) (i : Nat) (h : i < s.size) : bytesOf (s.extract 0 (i + 1)) = bytesOf (s.extract 0 i) ++ [bt s i] := by
  have h2 : (bytesOf s)[i]? = some (bt s i) := by rw [bytesOf_get?, if_pos h]
  rw [bytesOf_extract, bytesOf_extract, List.drop_zero, List.drop_zero, List.take_add_one, h2]
  rfl
theorem alignL_le (L : List Int) : (alignL L).length ≤ L.length + 7 := by
  unfold alignL
  rw [List.length_append, List.length_replicate]
  omega
theorem headB_le (s : ByteArray) (L : List Int) : (headB s L).length ≤ L.length + 42 := by
  unfold headB
  simp only [List.length_append, bitsN_length]
  have := alignL_le (L ++ bitsN (if s.size ≤ 65535 then 1 else 0) 1 ++ bitsN 0 2)
  simp only [List.length_append, bitsN_length] at this
  omega
set_option maxRecDepth 100000 in
set_option maxHeartbeats 1500000 in
theorem sstored_calls (w : World) (s : ByteArray) (hs : s.size ≤ 100000) :
    Calls Tryz.prog 103 #[.string s] w fun e w' => e = .returned (.string (storeF s)) ∧ Below w.heap.size w w' := by
  go_enter Tryz.func103, Tryz.ntmps103
  go_wp2_with fail
  have hW := WrAt.new w w.heap.size
  have hB := below_alloc (Below.refl w.heap.size w) (.cells #[.int .i64 0, .int .i64 0, .slice none 0 0] 138)
  have H0 : Aside0 (_ ∧ _) := ⟨hW, hB⟩
  generalize (w.alloc (.cells #[.int .i64 0, .int .i64 0, .slice none 0 0] 138)) = W0 at *
  clear hW hB
  go_loopw [0] (fun v0 wr => ∃ (k : Nat) (s2 : ByteArray) (L : List Int), v0 = .string s2 ∧ s2.size ≤ 100000 ∧ s2.size < 65535 * k ∧ L.length + 20 * s2.size ≤ 2000100 ∧ Aside0 (storeB k s2 L = storeB (s.size / 65535 + 1) s [] ∧ WrAt wr w.heap.size w.heap.size 138 [] L ∧ Below w.heap.size w wr)) (fun v0 _ => (match v0 with | .string t => t.size | _ => 0))
  case atStart => exact ⟨_, s, [], rfl, hs, by omega, by simp; omega, ⟨rfl, H0.out.1, H0.out.2⟩⟩
  case round =>
    clear H0
    obtain ⟨k, s2, L, rfl, hs2, hk, hL, HR⟩ := hrel
    obtain ⟨k, rfl⟩ : ∃ k', k = k' + 1 := ⟨k - 1, by omega⟩
    have heq := HR.out.1
    rw [storeB] at heq
    obtain ⟨n, hn⟩ : ∃ n : Nat, n = min s2.size 65535 := ⟨_, rfl⟩
    have q1 : min (s2.size : Int) 65535 = (n : Int) := by omega
    have hn1 : n ≤ 65535 := by omega
    have hn2 : n ≤ s2.size := by omega
    have HN := Aside0.mk hn
    clear hn
    by_cases hl : s2.size ≤ 65535
    · obtain rfl : n = s2.size := by have := HN.out; omega
      have q2 : ((s2.size : Int) == (s2.size : Int)) = true := by rw [beq_iff_eq]
      rw [if_pos hl] at heq
      have HEQ := Aside0.mk heq
      have HHD : Aside0 (headB s2 L = alignL (L ++ bitsN 1 1 ++ bitsN 0 2) ++ bitsN (s2.size : Int) 16 ++ bitsN (65535 - (s2.size : Int)) 16) := ⟨by unfold headB; rw [if_pos hl, ← HN.out]⟩
      clear heq
      have K1 := Aside0.mk (wr_put wr w.heap.size w.heap.size 138 [] L 1 1 HR.out.2.1 (by decide) (by decide) (by decide) (by decide) (by omega) HR.out.2.2.size)
      go_wp2_with fail
      refine K1.out.mono ?_
      rintro e w1 ⟨rfl, hw1, hf1⟩
      have hB1 : w.heap.size ≤ w1.heap.size := Nat.le_trans HR.out.2.2.size hf1.size
      have K2 := Aside0.mk (wr_put w1 w.heap.size w.heap.size 138 [] _ 0 2 hw1 (by decide) (by decide) (by decide) (by decide) (by rw [List.length_append, bitsN_length]; omega) hB1)
      have F1 := Aside0.mk hf1
      clear hw1 hf1 K1
      go_wp2_with fail
      refine K2.out.mono ?_
      rintro e w2 ⟨rfl, hw2, hf2⟩
      have hB2 : w.heap.size ≤ w2.heap.size := Nat.le_trans hB1 hf2.size
      have K3 := Aside0.mk (wr_align w2 w.heap.size w.heap.size 138 [] _ hw2 (by decide) (by rw [List.length_append, List.length_append, bitsN_length, bitsN_length]; omega) hB2)
      have F2 := Aside0.mk (F1.out.su hf2)
      clear hw2 hf2 K2 F1
      go_wp2_with fail
      refine K3.out.mono ?_
      rintro e w3 ⟨rfl, hw3, hf3⟩
      have hB3 : w.heap.size ≤ w3.heap.size := Nat.le_trans hB2 hf3.size
      have hal := alignL_le (L ++ bitsN 1 1 ++ bitsN 0 2)
      rw [List.length_append, List.length_append, bitsN_length, bitsN_length] at hal
      have K4 := Aside0.mk (wr_put w3 w.heap.size w.heap.size 138 [] _ (s2.size : Int) 16 hw3 (by decide) (by omega) (by omega) (by decide) (by omega) hB3)
      have F3 := Aside0.mk (F2.out.su hf3)
      clear hw3 hf3 K3 F2
      go_wp2_with fail
      have K4 := K4.out
      rw [show ((16 : Nat) : Int) = 16 from rfl] at K4
      refine K4.mono ?_
      rintro e w4 ⟨rfl, hw4, hf4⟩
      have hB4 : w.heap.size ≤ w4.heap.size := Nat.le_trans hB3 hf4.size
      have hxr := s_xor s2.size (by omega)
      have K5 := Aside0.mk (wr_put w4 w.heap.size w.heap.size 138 [] _ (65535 - (s2.size : Int)) 16 hw4 (by decide) (by omega) (by omega) (by decide) (by rw [List.length_append, bitsN_length]; omega) hB4)
      rw [← HHD.out] at K5
      have F4 := Aside0.mk (F3.out.su hf4)
      clear hw4 hf4 K4 F3 hal
      go_wp2_with fail
      have K5 := K5.out
      rw [show ((16 : Nat) : Int) = 16 from rfl] at K5
      refine K5.mono ?_
      rintro e w5 ⟨rfl, hw5, hf5⟩
      have F5 : Aside0 (_ ∧ _) := ⟨hw5, HR.out.2.2.trans ((F4.out.su hf5).suBelow (Nat.le_refl _) (Nat.le_refl _) HR.out.2.2.size)⟩
      have hhd := headB_le s2 L
      clear hw5 hf5 K5 F4 HR hxr hB1 hB2 hB3 hB4
      go_wp2_with fail
      go_loopw [24] (fun v24 wq => ∃ i : Nat, v24 = .int .i64 (i : Int) ∧ i ≤ s2.size ∧ Aside0 (WrAt wq w.heap.size w.heap.size 138 [] (headB s2 L ++ flat (bytesOf (s2.extract 0 i))) ∧ Below w.heap.size w wq)) (fun v24 _ => s2.size - (intOf v24).toNat)
      case atStart => exact ⟨0, rfl, by omega, ⟨by
        have e : flat (bytesOf (s2.extract 0 0)) = [] := by rw [bytesOf_extract]; rfl
        rw [e, List.append_nil]; exact F5.out.1, F5.out.2⟩⟩
      case round =>
        clear F5
        obtain ⟨i, rfl, hi, HW⟩ := hrel
        have hlen : (bytesOf (s2.extract 0 i)).length = i := by rw [bytesOf_length, ByteArray.size_extract]; omega
        by_cases hlt : i < s2.size
        · have r1 : decide ((i : Int) < (s2.size : Int)) = true := decide_eq_true (by omega)
          have r1n : decide (i < s2.size) = true := decide_eq_true hlt
          have hby := bt_byte s2 (i : Int)
          have a0 : i < s2.size := by omega
          have n0 : (s2[i].toNat : Int) = bt s2 (i : Int) := (bt_nat s2 i a0).symm
          have HS := Aside0.mk (bytes_extract_succ s2 i a0)
          obtain ⟨y, hy⟩ : ∃ y, y = bt s2 (i : Int) := ⟨_, rfl⟩
          rw [← hy] at hby n0 HS
          have qw : IntKind.i64.wrap y = y := IntWalk.i64_in _ (by omega)
          have K6 := Aside0.mk (wr_put wr w.heap.size w.heap.size 138 [] _ y 8 HW.out.1 (by decide) hby.1 (by omega) (by decide) (by rw [List.length_append, flat_length, hlen]; omega) HW.out.2.size)
          clear hy
          go_wp2_with fail
          have K6 := K6.out
          rw [show ((8 : Nat) : Int) = 8 from rfl] at K6
          refine K6.mono ?_
          rintro e w6 ⟨rfl, hw6, hf6⟩
          have F6 : Aside0 (_ ∧ _) := ⟨hw6, HW.out.2.trans (hf6.suBelow (Nat.le_refl _) (Nat.le_refl _) HW.out.2.size)⟩
          clear hw6 hf6 K6
          go_wp2_with fail
          go_roundw
          case rel => exact ⟨i + 1, by go_num, by omega, ⟨by rw [HS.out, flat_snoc, ← List.append_assoc]; exact F6.out.1, F6.out.2⟩⟩
          case measure => simp [intOf]; omega
        · have r1 : decide ((i : Int) < (s2.size : Int)) = false := decide_eq_false (by omega)
          have r1n : decide (i < s2.size) = false := decide_eq_false hlt
          obtain rfl : i = s2.size := by omega
          rw [ByteArray.extract_zero_size] at HW
          have HT := Aside0.mk (wr_text wr w.heap.size w.heap.size _ _ _ HW.out.1 (by rw [List.length_append, flat_length, bytesOf_length]; omega))
          go_wp2_with fail
          refine HT.out.mono ?_
          rintro e w7 ⟨t, rfl, ht, hb7⟩
          go_wp2_with fail
          go_returns
          rw [HEQ.out] at ht
          obtain rfl := TextOf.textL ht
          exact ⟨rfl, HW.out.2.trans (hb7.mono HW.out.2.size)⟩
    · obtain rfl : n = 65535 := by have := HN.out; omega
      have q2 : ((65535 : Int) == (s2.size : Int)) = false := by rw [beq_eq_false_iff_ne]; omega
      rw [if_neg hl] at heq
      have HEQ := Aside0.mk heq
      have HHD : Aside0 (headB s2 L = alignL (L ++ bitsN 0 1 ++ bitsN 0 2) ++ bitsN (65535 : Int) 16 ++ bitsN (65535 - (65535 : Int)) 16) := ⟨by unfold headB; rw [if_neg hl, ← HN.out]; rfl⟩
      clear heq
      have K1 := Aside0.mk (wr_put wr w.heap.size w.heap.size 138 [] L 0 1 HR.out.2.1 (by decide) (by decide) (by decide) (by decide) (by omega) HR.out.2.2.size)
      go_wp2_with fail
      refine K1.out.mono ?_
      rintro e w1 ⟨rfl, hw1, hf1⟩
      have hB1 : w.heap.size ≤ w1.heap.size := Nat.le_trans HR.out.2.2.size hf1.size
      have K2 := Aside0.mk (wr_put w1 w.heap.size w.heap.size 138 [] _ 0 2 hw1 (by decide) (by decide) (by decide) (by decide) (by rw [List.length_append, bitsN_length]; omega) hB1)
      have F1 := Aside0.mk hf1
      clear hw1 hf1 K1
      go_wp2_with fail
      refine K2.out.mono ?_
      rintro e w2 ⟨rfl, hw2, hf2⟩
      have hB2 : w.heap.size ≤ w2.heap.size := Nat.le_trans hB1 hf2.size
      have K3 := Aside0.mk (wr_align w2 w.heap.size w.heap.size 138 [] _ hw2 (by decide) (by rw [List.length_append, List.length_append, bitsN_length, bitsN_length]; omega) hB2)
      have F2 := Aside0.mk (F1.out.su hf2)
      clear hw2 hf2 K2 F1
      go_wp2_with fail
      refine K3.out.mono ?_
      rintro e w3 ⟨rfl, hw3, hf3⟩
      have hB3 : w.heap.size ≤ w3.heap.size := Nat.le_trans hB2 hf3.size
      have hal := alignL_le (L ++ bitsN 0 1 ++ bitsN 0 2)
      rw [List.length_append, List.length_append, bitsN_length, bitsN_length] at hal
      have K4 := Aside0.mk (wr_put w3 w.heap.size w.heap.size 138 [] _ (65535 : Int) 16 hw3 (by decide) (by omega) (by omega) (by decide) (by omega) hB3)
      have F3 := Aside0.mk (F2.out.su hf3)
      clear hw3 hf3 K3 F2
      go_wp2_with fail
      have K4 := K4.out
      rw [show ((16 : Nat) : Int) = 16 from rfl] at K4
      refine K4.mono ?_
      rintro e w4 ⟨rfl, hw4, hf4⟩
      have hB4 : w.heap.size ≤ w4.heap.size := Nat.le_trans hB3 hf4.size
      have hxr := s_xor 65535 (by omega)
      have K5 := Aside0.mk (wr_put w4 w.heap.size w.heap.size 138 [] _ (65535 - (65535 : Int)) 16 hw4 (by decide) (by omega) (by omega) (by decide) (by rw [List.length_append, bitsN_length]; omega) hB4)
      rw [← HHD.out] at K5
      have F4 := Aside0.mk (F3.out.su hf4)
      clear hw4 hf4 K4 F3 hal
      go_wp2_with fail
      have K5 := K5.out
      rw [show ((16 : Nat) : Int) = 16 from rfl] at K5
      refine K5.mono ?_
      rintro e w5 ⟨rfl, hw5, hf5⟩
      have F5 : Aside0 (_ ∧ _) := ⟨hw5, HR.out.2.2.trans ((F4.out.su hf5).suBelow (Nat.le_refl _) (Nat.le_refl _) HR.out.2.2.size)⟩
      have hhd := headB_le s2 L
      clear hw5 hf5 K5 F4 HR hxr hB1 hB2 hB3 hB4
      go_wp2_with fail
      go_loopw [24] (fun v24 wq => ∃ i : Nat, v24 = .int .i64 (i : Int) ∧ i ≤ 65535 ∧ Aside0 (WrAt wq w.heap.size w.heap.size 138 [] (headB s2 L ++ flat (bytesOf (s2.extract 0 i))) ∧ Below w.heap.size w wq)) (fun v24 _ => 65535 - (intOf v24).toNat)
      case atStart => exact ⟨0, rfl, by omega, ⟨by
        have e : flat (bytesOf (s2.extract 0 0)) = [] := by rw [bytesOf_extract]; rfl
        rw [e, List.append_nil]; exact F5.out.1, F5.out.2⟩⟩
      case round =>
        clear F5
        obtain ⟨i, rfl, hi, HW⟩ := hrel
        have hlen : (bytesOf (s2.extract 0 i)).length = i := by rw [bytesOf_length, ByteArray.size_extract]; omega
        by_cases hlt : i < 65535
        · have r1 : decide ((i : Int) < (65535 : Int)) = true := decide_eq_true (by omega)
          have r1n : decide (i < 65535) = true := decide_eq_true hlt
          have hby := bt_byte s2 (i : Int)
          have a0 : i < s2.size := by omega
          have n0 : (s2[i].toNat : Int) = bt s2 (i : Int) := (bt_nat s2 i a0).symm
          have HS := Aside0.mk (bytes_extract_succ s2 i a0)
          obtain ⟨y, hy⟩ : ∃ y, y = bt s2 (i : Int) := ⟨_, rfl⟩
          rw [← hy] at hby n0 HS
          have qw : IntKind.i64.wrap y = y := IntWalk.i64_in _ (by omega)
          have K6 := Aside0.mk (wr_put wr w.heap.size w.heap.size 138 [] _ y 8 HW.out.1 (by decide) hby.1 (by omega) (by decide) (by rw [List.length_append, flat_length, hlen]; omega) HW.out.2.size)
          clear hy
          go_wp2_with fail
          have K6 := K6.out
          rw [show ((8 : Nat) : Int) = 8 from rfl] at K6
          refine K6.mono ?_
          rintro e w6 ⟨rfl, hw6, hf6⟩
          have F6 : Aside0 (_ ∧ _) := ⟨hw6, HW.out.2.trans (hf6.suBelow (Nat.le_refl _) (Nat.le_refl _) HW.out.2.size)⟩
          clear hw6 hf6 K6
          go_wp2_with fail
          go_roundw
          case rel => exact ⟨i + 1, by go_num, by omega, ⟨by rw [HS.out, flat_snoc, ← List.append_assoc]; exact F6.out.1, F6.out.2⟩⟩
          case measure => simp [intOf]; omega
        · have r1 : decide ((i : Int) < (65535 : Int)) = false := decide_eq_false (by omega)
          have r1n : decide (i < 65535) = false := decide_eq_false hlt
          obtain rfl : i = 65535 := by omega
          have hxs : (s2.extract 65535 s2.size).size = s2.size - 65535 := by rw [ByteArray.size_extract]; omega
          have hi5 : Aside0 ((65535 : Nat) = 65535) := ⟨rfl⟩
          go_wp2_with fail
          go_roundw
          case rel => exact ⟨k, s2.extract 65535 s2.size, _, rfl, by omega, by have := hi5.out; omega, by rw [List.length_append, flat_length, hlen, hxs]; have := hi5.out; omega, ⟨by rw [← HEQ.out, hi5.out], HW.out⟩⟩
          case measure => show (s2.extract 65535 s2.size).size < s2.size; have := hi5.out; omega
end Go.Proofs.YtghoifkaikddlaaGreat.Hand
namespace Go.Proofs.YtghoifkaikddlaaGreat.Hand
open Go.RowKit Go.Proofs.YtghoifkaikddlaaGreatW.PrintWords Go.Proofs.YtghoifkaikddlaaGreatW.PrintLast Go.Proofs.YtghoifkaikddlaaGreatW.PrintMore Go.Proofs.YtghoifkaikddlaaGreat.Num Go.Proofs.YtghoifkaikddlaaGreat.Bits
set_option linter.unusedVariables false
set_option linter.unusedSimpArgs false
end Go.Proofs.YtghoifkaikddlaaGreat.Hand
