/- Squeeze: Fixed; walked by hand. -/
import Derived.Test.YtfoicjlkbkjfjaaHand11g
import Derived.Test.YtfoicjlkbkjfjaaHand11i
import Derived.Carry
namespace Go.Proofs.Ytfoicjlkbkjfjaa.Hand
open Go.RowKit Go.Proofs.YtfoicjlkbkjfjaaW.PrintWords Go.Proofs.YtfoicjlkbkjfjaaW.PrintLast Go.Proofs.YtfoicjlkbkjfjaaW.PrintMore Go.Proofs.Ytfoicjlkbkjfjaa.Num Go.Proofs.Ytfoicjlkbkjfjaa.Bits
set_option linter.unusedVariables false
set_option linter.unusedSimpArgs false
theorem FindAt.frU {w w1 : World} {B B2 g x : Nat} {s : ByteArray} {d : Nat} {t : TypeId} {post : List Value} {L : List Int} (h : FindAt w B2 x s d) (hW : WrAt w B g t post L) (ht : OtherT t) (htf : 51 ≠ t) (hBB : B ≤ B2) (hf : Fr w w1 (SU B g w)) : FindAt w1 B2 x s d := by
  obtain ⟨mb, v, l, h1, h2, h3, h4, h5⟩ := h.open_
  obtain ⟨y, m, u, xs, q1, _⟩ := hW.open_
  refine ⟨mb, v, l, hf.blk h1 ?_, h2.fr hf (row_su (h2.lower hBB) hW ht), h3, h4, h5.fr hf ?_⟩
  · rintro (rfl | ⟨_, c2, fr, e2⟩)
    · rw [h1] at q1; injection q1 with q1; injection q1 with _ q1; exact absurd q1 htf
    · rw [h1] at e2; injection e2 with e2; injection e2 with _ e2; exact absurd e2 (by decide)
  · rintro (rfl | ⟨_, c2, fr, e2⟩)
    · exact h5.ne q1 rfl
    · exact h5.ne e2 rfl
theorem WrAt.frF {w w1 : World} {B B2 g x : Nat} {s : ByteArray} {d : Nat} {t : TypeId} {post : List Value} {L : List Int} (hW : WrAt w B g t post L) (h : FindAt w B2 x s d) (htf : 51 ≠ t) (hg : g < B2) (hf : Fr w w1 (SF B2 x w)) : WrAt w1 B g t post L := by
  obtain ⟨mb, v, l, h1, _⟩ := h.open_
  obtain ⟨y, m, u, xs, q1, _⟩ := hW.open_
  refine hW.fr hf ?_ ?_
  · rintro (rfl | ⟨hb, _⟩)
    · rw [h1] at q1; injection q1 with q1; injection q1 with _ q1; exact absurd q1 htf
    · omega
  · rintro k ⟨cs, fr, hc⟩ (rfl | ⟨_, ⟨c2, f2, hi⟩ | ⟨es, c, hm⟩⟩)
    · rw [h1] at hc; injection hc with hc; injection hc with _ hc; exact absurd hc (by decide)
    · rw [hc] at hi; injection hi with hi; injection hi with _ hi; exact absurd hi (by decide)
    · rw [hc] at hm; cases hm
theorem Fr.suF {w w1 w2 : World} {B B2 g x : Nat} (h : Fr w w1 (SU B g w)) (k : Fr w1 w2 (SF B2 x w1)) (h2 : w.heap.size ≤ B2) (hx : w.heap.size ≤ x) : Fr w w2 (SU B g w) :=
  h.trans k (fun j hj hs => by rcases hs with rfl | ⟨hb, _⟩ <;> omega)
/-- What Fixed keeps. -/
structure FxAt (w3 W : World) (B g nt at_ x : Nat) (s : ByteArray) (a : Nat) (L : List Int) : Prop where
  wr : WrAt W B g 46 [.pointer (some ⟨nt, 0, none⟩), .pointer (some ⟨at_, 0, none⟩)] L
  fd : ∃ d, d ≤ a ∧ FindAt W w3.heap.size x s d
  fr : Fr w3 W (SU B g w3)
theorem FxAt.coder {w3 W : World} {B g nt at_ x : Nat} {s : ByteArray} {a : Nat} {L L0 : List Int} (h : FxAt w3 W B g nt at_ x s a L) (h0 : CoderAt w3 B g nt at_ L0) : CoderAt W B g nt at_ L :=
  ⟨h.wr, TreeAt.fr h0.near h0.wr h.fr coder_other, TreeAt.fr h0.away h0.wr h.fr coder_other⟩
theorem FxAt.step {w3 W W1 : World} {B g nt at_ x : Nat} {s : ByteArray} {a : Nat} {L L1 : List Int} (h : FxAt w3 W B g nt at_ x s a L) (hc : CoderAt W1 B g nt at_ L1) (hf : Fr W W1 (SU B g W)) (hB : B ≤ w3.heap.size) : FxAt w3 W1 B g nt at_ x s a L1 := by
  obtain ⟨d, hd, hF⟩ := h.fd
  exact ⟨hc.wr, ⟨d, hd, hF.frU h.wr coder_other (by decide) hB hf⟩, h.fr.su hf⟩
theorem fixG_eq (s : ByteArray) (a : Nat) (h : a ≤ s.size) : fixG s (s.size + 1 - a) a = if a < s.size then (if (findF s a).1 < 3 then symB fixLit (bt s a).toNat ++ fixG s (s.size + 1 - (a + 1)) (a + 1) else copyB (findF s a).1 (findF s a).2 ++ fixG s (s.size + 1 - (a + (findF s a).1)) (a + (findF s a).1)) else symB fixLit 256 := by
  rw [show s.size + 1 - a = (s.size - a) + 1 by omega, fixG]
  have hf := (find_le s a h).2
  split
  · split
    · rw [show s.size + 1 - (a + 1) = s.size - a by omega]
    · rw [fixG_more s (s.size - a) (s.size + 1 - (a + (findF s a).1)) _ hf (by omega) (by omega)]
  · rfl
theorem symB_le (k : Nat) (h : k < 288) : (symB fixLit k).length ≤ 9 := by
  unfold symB
  rw [revB_length]
  have := fixl_pos k h
  omega
theorem copyB_le {n back : Int} (hn : 3 ≤ n ∧ n ≤ 258) (hb : 1 ≤ back ∧ back ≤ 32768) : (copyB n back).length ≤ 36 := by
  have h1 := lens_ok hn.1 hn.2
  have h2 := dist_ok hb.1 hb.2
  have h3 := symB_le (257 + codeF lensT n) (by omega)
  have h4 : (symB fixDist (codeF distT back)).length ≤ 9 := by
    unfold symB
    rw [revB_length]
    have := fixd_pos (codeF distT back) (by omega)
    omega
  unfold copyB
  simp only [List.length_append, bitsN_length]
  omega
set_option maxRecDepth 100000 in
set_option maxHeartbeats 4000000 in
theorem sfixed_calls (w : World) (s : ByteArray) (hs : s.size ≤ 100000) :
    Calls Try.prog 13 #[.string s] w fun e w' => e = .returned (.string (fixF s)) ∧ Below w.heap.size w w' := by
  have hmm := @run_makeMap Try.prog
  go_enter Try.func13, Try.ntmps13
  go_wp2_with fail
  refine wp_scope_straight ?_
  go_wp2_with fail
  refine (newCoder_calls w).mono ?_
  rintro e w1 ⟨g, nt, at_, rfl, hg, hc1, hb1⟩
  have H1 : Aside0 (_ ∧ _) := ⟨hc1, hb1⟩
  have hB1 := hb1.size
  clear hc1 hb1
  go_wp2_with fail
  refine (cput_calls w1 w.heap.size g nt at_ 1 1 [] H1.out.1 hB1 (by decide) (by decide) (by decide) (by decide)).mono ?_
  rintro e w2 ⟨rfl, hc2, hf2⟩
  have hB2 : w.heap.size ≤ w2.heap.size := Nat.le_trans hB1 hf2.size
  have H2 : Aside0 (_ ∧ _) := ⟨hc2, H1.out.2.trans (hf2.below (by rintro k (rfl | h); exact hg; exact h.1) hB1)⟩
  clear hc2 hf2 H1
  go_wp2_with fail
  refine (cput_calls w2 w.heap.size g nt at_ 1 2 _ H2.out.1 hB2 (by decide) (by decide) (by decide) (by decide)).mono ?_
  rintro e w3 ⟨rfl, hc3, hf3⟩
  have hB3 : w.heap.size ≤ w3.heap.size := Nat.le_trans hB2 hf3.size
  have H3 : Aside0 (_ ∧ _) := ⟨hc3, H2.out.2.trans (hf3.below (by rintro k (rfl | h); exact hg; exact h.1) hB2)⟩
  clear hc3 hf3 H2
  go_wp2_with fail
  refine wp_label ?_
  go_wp2_with fail
  have hg3 : g < w3.heap.size := by
    obtain ⟨y, m, u, xs, q1, _⟩ := H3.out.1.wr.open_
    exact blk_lt q1
  have HX0 : Aside0 (FxAt w3 ((w3.alloc (.map #[] 0)).alloc (.cells #[.string s, .map (some w3.heap.size), .slice none 0 0, .int .i64 0] 51)) w.heap.size g nt at_ (w3.heap.size + 1) s 0 ([] ++ bitsN 1 1 ++ bitsN 1 2)) := ⟨by
    have hb : Below w3.heap.size w3 ((w3.alloc (.map #[] 0)).alloc (.cells #[.string s, .map (some w3.heap.size), .slice none 0 0, .int .i64 0] 51)) := below_alloc (below_alloc (Below.refl _ _) _) _
    refine ⟨H3.out.1.wr.below hb, ⟨0, Nat.le_refl _, w3.heap.size, .slice none 0 0, [], ?_, Row.nil _ _ _ _, rfl, fun i hi => absurd hi (Nat.not_lt_zero _), ?_⟩, Fr.of_below hb _⟩
    · have := blk_new (w3.alloc (.map #[] 0)) (.cells #[.string s, .map (some w3.heap.size), .slice none 0 0, .int .i64 0] 51)
      rw [show (w3.alloc (.map #[] 0)).heap.size = w3.heap.size + 1 by simp] at this
      exact this
    · exact (MapAt.made w3 w3.heap.size (Nat.le_refl _)).fr ((Fr.refl (w3.alloc (.map #[] 0)) (fun _ => False)).alloc _) (fun h => h)⟩
  have H0 := Aside0.mk H3.out.1
  have HBL := Aside0.mk H3.out.2
  generalize ((w3.alloc (.map #[] 0)).alloc (.cells #[.string s, .map (some w3.heap.size), .slice none 0 0, .int .i64 0] 51)) = W4 at *
  have hx2 : w3.heap.size ≤ w3.heap.size + 1 := Nat.le_succ _
  clear H3 hmm hB1 hB2
  go_loopw [5] (fun v5 wr => ∃ (a : Nat) (L : List Int), v5 = .int .i64 (a : Int) ∧ a ≤ s.size ∧ L.length ≤ 40 * a + 3 ∧ Aside0 (FxAt w3 wr w.heap.size g nt at_ (w3.heap.size + 1) s a L ∧ L ++ fixG s (s.size + 1 - a) a = fixBits s)) (fun v5 _ => s.size - (intOf v5).toNat)
  case atStart => exact ⟨0, _, rfl, by omega, by decide, ⟨HX0.out, rfl⟩⟩
  case round =>
    clear HX0
    obtain ⟨a, L, rfl, ha, hLa, HR⟩ := hrel
    by_cases hlt : a < s.size
    · have q1 : decide ((a : Int) < (s.size : Int)) = true := decide_eq_true (by omega)
      have q1n : decide (a < s.size) = true := decide_eq_true hlt
      obtain ⟨d, hd, hF⟩ := HR.out.1.fd
      have HFC := Aside0.mk (ffind_calls wr w3.heap.size (w3.heap.size + 1) s d a hF hd (by omega) hs HR.out.1.fr.size)
      have HFT := Aside0.mk hF
      have heq := HR.out.2
      rw [fixG_eq s a ha, if_pos hlt] at heq
      have hfo := find_ok s a ha
      have hfl := find_le s a ha
      obtain ⟨n, hn⟩ : ∃ n, n = (findF s a).1 := ⟨_, rfl⟩
      obtain ⟨bk, hbk⟩ : ∃ bk, bk = (findF s a).2 := ⟨_, rfl⟩
      rw [← hn, ← hbk] at heq hfo HFC
      rw [← hn] at hfl
      have HEQ := Aside0.mk heq
      clear hF heq hn hbk
      go_wp2_with fail
      refine HFC.out.mono ?_
      rintro e w5 ⟨rfl, hF5, hf5⟩
      have HX5 : Aside0 (FxAt w3 w5 w.heap.size g nt at_ (w3.heap.size + 1) s a L) := ⟨⟨HR.out.1.wr.frF HFT.out (by decide) hg3 hf5, ⟨a, Nat.le_refl _, hF5⟩, HR.out.1.fr.suF hf5 (Nat.le_refl _) hx2⟩⟩
      have HC5 := Aside0.mk (HX5.out.coder H0.out)
      have hB5 : w.heap.size ≤ w5.heap.size := Nat.le_trans hB3 HX5.out.fr.size
      clear HFC hF5 hf5 HFT HR
      by_cases hn3 : n < 3
      · have q2 : decide ((n : Int) < 3) = true := decide_eq_true (by omega)
        have q2n : decide (n < 3) = true := decide_eq_true hn3
        have heq := HEQ.out
        rw [if_pos hn3] at heq
        have hby := bt_byte s (a : Int)
        have a0 : a < s.size := hlt
        have n0 : (s[a].toNat : Int) = bt s (a : Int) := (bt_nat s a a0).symm
        obtain ⟨y, hy⟩ : ∃ y, y = bt s (a : Int) := ⟨_, rfl⟩
        rw [← hy] at hby n0 heq
        obtain ⟨c3, c4⟩ := HC5.out.cells
        have HN := nearw_calls w5.drew w.heap.size g nt at_ y.toNat L (HC5.out.drawn ⟨⟨1, rfl⟩⟩) hB5 (by omega) (by omega)
        rw [show ((y.toNat : Nat) : Int) = y by omega] at HN
        have HN := Aside0.mk HN
        have HEQ2 := Aside0.mk heq
        have hl9 := symB_le y.toNat (by omega)
        have qw : IntKind.i64.wrap y = y := IntWalk.i64_in _ (by omega)
        clear hy heq HEQ c4
        go_wp2_with fail
        go_region_held3 (fun w' => w'.cell? ⟨g, 3, none⟩ = some (.pointer (some ⟨nt, 0, none⟩))) (first | exact c3 | exact e3) ((go_at_call 25; (with_reducible refine HN.out.mono ?_); rintro e w6 ⟨rfl, hc6, hf6⟩; have e3 := hc6.cells.1))
        have HX6 := Aside0.mk (HX5.out.step hc6 hf6.of_drew hB3)
        clear HN hc6 hf6 e3 c3
        go_wp2_with fail
        go_roundw
        case rel =>
          obtain ⟨d, hd, hF⟩ := HX6.out.fd
          exact ⟨a + 1, _, by go_num, by omega, by rw [List.length_append]; omega, ⟨⟨HX6.out.wr, ⟨d, by omega, hF⟩, HX6.out.fr⟩, by rw [List.append_assoc]; exact HEQ2.out⟩⟩
        case measure => simp [intOf]; omega
      · have q2 : decide ((n : Int) < 3) = false := decide_eq_false (by omega)
        have q2n : decide (n < 3) = false := decide_eq_false hn3
        have heq := HEQ.out
        rw [if_neg hn3] at heq
        have hbr : 1 ≤ bk ∧ bk ≤ 32768 := by
          rcases hfo with h | h
          · omega
          · exact ⟨h.1, h.2.2.1⟩
        have HN := Aside0.mk (copied_calls w5 w.heap.size g nt at_ (n : Int) (bk : Int) L HC5.out hB5 (by omega) (by omega) (by omega))
        have hl9 := copyB_le (n := (n : Int)) (back := (bk : Int)) (by omega) (by omega)
        have HEQ2 := Aside0.mk heq
        clear heq HEQ hfo
        go_wp2_with fail
        refine HN.out.mono ?_
        rintro e w6 ⟨rfl, hc6, hf6⟩
        have HX6 := Aside0.mk (HX5.out.step hc6 hf6 hB3)
        clear HN hc6 hf6
        go_wp2_with fail
        go_roundw
        case rel =>
          obtain ⟨d, hd, hF⟩ := HX6.out.fd
          exact ⟨a + n, _, by go_num, by omega, by rw [List.length_append]; omega, ⟨⟨HX6.out.wr, ⟨d, by omega, hF⟩, HX6.out.fr⟩, by rw [List.append_assoc]; exact HEQ2.out⟩⟩
        case measure => simp [intOf]; omega
    · have q1 : decide ((a : Int) < (s.size : Int)) = false := decide_eq_false (by omega)
      have q1n : decide (a < s.size) = false := decide_eq_false hlt
      have heq := HR.out.2
      rw [fixG_eq s a ha, if_neg hlt] at heq
      have HC5 := Aside0.mk (HR.out.1.coder H0.out)
      have hB5 : w.heap.size ≤ wr.heap.size := Nat.le_trans hB3 HR.out.1.fr.size
      have HN := nearw_calls wr.drew w.heap.size g nt at_ 256 L (HC5.out.drawn ⟨⟨1, rfl⟩⟩) hB5 (by omega) (by omega)
      rw [show ((256 : Nat) : Int) = 256 from rfl] at HN
      have HN := Aside0.mk HN
      obtain ⟨c3, c4⟩ := HC5.out.cells
      have HEQ := Aside0.mk heq
      clear heq c4
      go_wp2_with fail
      go_region_held3 (fun w' => w'.cell? ⟨g, 3, none⟩ = some (.pointer (some ⟨nt, 0, none⟩))) (first | exact c3 | exact e3) ((go_at_call 25; (with_reducible refine HN.out.mono ?_); rintro e w6 ⟨rfl, hc6, hf6⟩; have e3 := hc6.cells.1))
      have hl9 := symB_le 256 (by omega)
      have HT := Aside0.mk (wr_text w6 w.heap.size g _ _ _ hc6.wr (by rw [List.length_append]; omega))
      have HB6 : Aside0 (Below w.heap.size w w6) := ⟨HBL.out.trans ((HR.out.1.fr.su hf6.of_drew).suBelow hg (Nat.le_refl _) hB3)⟩
      clear HN hc6 hf6 e3 c3
      go_wp2_with fail
      refine HT.out.mono ?_
      rintro e w7 ⟨t, rfl, ht, hb7⟩
      go_wp2_with fail
      repeat (rw [Exit.noGoto_ret])
      go_returns
      rw [HEQ.out] at ht
      obtain rfl := TextOf.textL ht
      exact ⟨rfl, HB6.out.trans (hb7.mono HB6.out.size)⟩
end Go.Proofs.Ytfoicjlkbkjfjaa.Hand
