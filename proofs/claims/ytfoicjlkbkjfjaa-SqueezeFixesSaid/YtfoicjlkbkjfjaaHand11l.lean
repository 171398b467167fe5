/- Squeeze: Fixed; walked by hand. Squeeze: Stored; walked by hand. Squeeze: Stored and Fixed in the print's own form; what any text's own are is told. -/
import Derived.Test.YtfoicjlkbkjfjaaHand11g
import Derived.Test.YtfoicjlkbkjfjaaHand11i
import Derived.Carry
namespace Go.Proofs.Ytfoicjlkbkjfjaa.Hand
open Go.RowKit Go.Proofs.YtfoicjlkbkjfjaaW.PrintWords Go.Proofs.YtfoicjlkbkjfjaaW.PrintLast Go.Proofs.YtfoicjlkbkjfjaaW.PrintMore Go.Proofs.Ytfoicjlkbkjfjaa.Num Go.Proofs.Ytfoicjlkbkjfjaa.Bits
set_option linter.unusedVariables false
set_option linter.unusedSimpArgs false
theorem FindAt.frU {w w1 : World} {B B2 g x : Nat} {s : ByteArray} {d : Nat} {t : TypeId} {post : List Value} {L : List Int} (h : FindAt w B2 x s d) (hW : WrAt w B g t post L) (ht : OtherT t) (htf : 51 ≠ t) (hBB : B ≤ B2) (hf : Fr w w1 (SU B g w)) : FindAt w1 B2 x s d := by
  obtain ⟨mb, v, l, h1, h2, h3, h4, h5⟩ := h.open_
  obtain ⟨y, m, u, xs, q1, _⟩ := hW.open_
  refine ⟨mb, v, l, hf.blk h1 ?_, h2.fr hf (row_su (h2.lower hBB) hW ht), h3, h4, h5.fr hf ?_⟩
  · rintro (rfl | ⟨_, c2, fr, e2⟩)
    · rw [h1] at q1; injection q1 with q1; injection q1 with _ q1; exact absurd q1 htf
    · rw [h1] at e2; injection e2 with e2; injection e2 with _ e2; exact absurd e2 (by decide)
  · rintro (rfl | ⟨_, c2, fr, e2⟩)
    · exact h5.ne q1 rfl
    · exact h5.ne e2 rfl
theorem WrAt.frF {w w1 : World} {B B2 g x : Nat} {s : ByteArray} {d : Nat} {t : TypeId} {post : List Value} {L : List Int} (hW : WrAt w B g t post L) (h : FindAt w B2 x s d) (htf : 51 ≠ t) (hg : g < B2) (hf : Fr w w1 (SF B2 x w)) : WrAt w1 B g t post L := by
  obtain ⟨mb, v, l, h1, _⟩ := h.open_
  obtain ⟨y, m, u, xs, q1, _⟩ := hW.open_
  refine hW.fr hf ?_ ?_
  · rintro (rfl | ⟨hb, _⟩)
    · rw [h1] at q1; injection q1 with q1; injection q1 with _ q1; exact absurd q1 htf
    · omega
  · rintro k ⟨cs, fr, hc⟩ (rfl | ⟨_, ⟨c2, f2, hi⟩ | ⟨es, c, hm⟩⟩)
    · rw [h1] at hc; injection hc with hc; injection hc with _ hc; exact absurd hc (by decide)
    · rw [hc] at hi; injection hi with hi; injection hi with _ hi; exact absurd hi (by decide)
    · rw [hc] at hm; cases hm
theorem Fr.suF {w w1 w2 : World} {B B2 g x : Nat} (h : Fr w w1 (SU B g w)) (k : Fr w1 w2 (SF B2 x w1)) (h2 : w.heap.size ≤ B2) (hx : w.heap.size ≤ x) : Fr w w2 (SU B g w) :=
  h.trans k (fun j hj hs => by rcases hs with rfl | ⟨hb, _⟩ <;> omega)
/-- What Fixed keeps. -/
structure FxAt (w3 W : World) (B g nt at_ x : Nat) (s : ByteArray) (a : Nat) (L : List Int) : Prop where
  wr : WrAt W B g 46 [.pointer (some ⟨nt, 0, none⟩), .pointer (some ⟨at_, 0, none⟩)] L
  fd : ∃ d, d ≤ a ∧ FindAt W w3.heap.size x s d
  fr : Fr w3 W (SU B g w3)
theorem FxAt.coder {w3 W : World} {B g nt at_ x : Nat} {s : ByteArray} {a : Nat} {L L0 : List Int} (h : FxAt w3 W B g nt at_ x s a L) (h0 : CoderAt w3 B g nt at_ L0) : CoderAt W B g nt at_ L :=
  ⟨h.wr, TreeAt.fr h0.near h0.wr h.fr coder_other, TreeAt.fr h0.away h0.wr h.fr coder_other⟩
theorem FxAt.step {w3 W W1 : World} {B g nt at_ x : Nat} {s : ByteArray} {a : Nat} {L L1 : List Int} (h : FxAt w3 W B g nt at_ x s a L) (hc : CoderAt W1 B g nt at_ L1) (hf : Fr W W1 (SU B g W)) (hB : B ≤ w3.heap.size) : FxAt w3 W1 B g nt at_ x s a L1 := by
  obtain ⟨d, hd, hF⟩ := h.fd
  exact ⟨hc.wr, ⟨d, hd, hF.frU h.wr coder_other (by decide) hB hf⟩, h.fr.su hf⟩
theorem fixG_eq (s : ByteArray) (a : Nat) (h : a ≤ s.size) : fixG s (s.size + 1 - a) a = if a < s.size then (if (findF s a).1 < 3 then symB fixLit (bt s a).toNat ++ fixG s (s.size + 1 - (a + 1)) (a + 1) else copyB (findF s a).1 (findF s a).2 ++ fixG s (s.size + 1 - (a + (findF s a).1)) (a + (findF s a).1)) else symB fixLit 256 := by
  rw [show s.size + 1 - a = (s.size - a) + 1 by omega, fixG]
  have hf := (find_le s a h).2
  split
  · split
    · rw [show s.size + 1 - (a + 1) = s.size - a by omega]
    · rw [fixG_more s (s.size - a) (s.size + 1 - (a + (findF s a).1)) _ hf (by omega) (by omega)]
  · rfl
theorem symB_le (k : Nat) (h : k < 288) : (symB fixLit k).length ≤ 9 := by
  unfold symB
  rw [s_revB_length]
  have := fixl_pos k h
  omega
theorem copyB_le {n back : Int} (hn : 3 ≤ n ∧ n ≤ 258) (hb : 1 ≤ back ∧ back ≤ 32768) : (copyB n back).length ≤ 36 := by
  have h1 := lens_ok hn.1 hn.2
  have h2 := dist_ok hb.1 hb.2
  have h3 := symB_le (257 + codeF lensT n) (by omega)
  have h4 : (symB fixDist (codeF distT back)).length ≤ 9 := by
    unfold symB
    rw [s_revB_length]
    have := fixd_pos (codeF distT back) (by omega)
    omega
  unfold copyB
  simp only [List.length_append, bitsN_length]
  omega
set_option maxRecDepth 100000 in
set_option maxHeartbeats 4000000 in
theorem sfixed_calls (w : World) (s : ByteArray) (hs : s.size ≤ 100000) :
    Calls Try.prog 13 #[.string s] w fun e w' => e = .returned (.string (fixF s)) ∧ Below w.heap.size w w' := by
  have hmm := @run_makeMap Try.prog
  go_enter Try.func13, Try.ntmps13
  go_wp2_with fail
  refine wp_scope_straight ?_
  go_wp2_with fail
  refine (newCoder_calls w).mono ?_
  rintro e w1 ⟨g, nt, at_, rfl, hg, hc1, hb1⟩
  have H1 : Aside0 (_ ∧ _) := ⟨hc1, hb1⟩
  have hB1 := hb1.size
  clear hc1 hb1
  go_wp2_with fail
  refine (cput_calls w1 w.heap.size g nt at_ 1 1 [] H1.out.1 hB1 (by decide) (by decide) (by decide) (by decide)).mono ?_
  rintro e w2 ⟨rfl, hc2, hf2⟩
  have hB2 : w.heap.size ≤ w2.heap.size := Nat.le_trans hB1 hf2.size
  have H2 : Aside0 (_ ∧ _) := ⟨hc2, H1.out.2.trans (hf2.below (by rintro k (rfl | h); exact hg; exact h.1) hB1)⟩
  clear hc2 hf2 H1
  go_wp2_with fail
  refine (cput_calls w2 w.heap.size g nt at_ 1 2 _ H2.out.1 hB2 (by decide) (by decide) (by decide) (by decide)).mono ?_
  rintro e w3 ⟨rfl, hc3, hf3⟩
  have hB3 : w.heap.size ≤ w3.heap.size := Nat.le_trans hB2 hf3.size
  have H3 : Aside0 (_ ∧ _) := ⟨hc3, H2.out.2.trans (hf3.below (by rintro k (rfl | h); exact hg; exact h.1) hB2)⟩
  clear hc3 hf3 H2
  go_wp2_with fail
  refine wp_label ?_
  go_wp2_with fail
  have hg3 : g < w3.heap.size := by
    obtain ⟨y, m, u, xs, q1, _⟩ := H3.out.1.wr.open_
    exact blk_lt q1
  have HX0 : Aside0 (FxAt w3 ((w3.alloc (.map #[] 0)).alloc (.cells #[.string s, .map (some w3.heap.size), .slice none 0 0, .int .i64 0] 51)) w.heap.size g nt at_ (w3.heap.size + 1) s 0 ([] ++ bitsN 1 1 ++ bitsN 1 2)) := ⟨by
    have hb : Below w3.heap.size w3 ((w3.alloc (.map #[] 0)).alloc (.cells #[.string s, .map (some w3.heap.size), .slice none 0 0, .int .i64 0] 51)) := below_alloc (below_alloc (Below.refl _ _) _) _
    refine ⟨H3.out.1.wr.below hb, ⟨0, Nat.le_refl _, w3.heap.size, .slice none 0 0, [], ?_, Row.nil _ _ _ _, rfl, fun i hi => absurd hi (Nat.not_lt_zero _), ?_⟩, Fr.of_below hb _⟩
    · have := blk_new (w3.alloc (.map #[] 0)) (.cells #[.string s, .map (some w3.heap.size), .slice none 0 0, .int .i64 0] 51)
      rw [show (w3.alloc (.map #[] 0)).heap.size = w3.heap.size + 1 by simp] at this
      exact this
    · exact (MapAt.made w3 w3.heap.size (Nat.le_refl _)).fr ((Fr.refl (w3.alloc (.map #[] 0)) (fun _ => False)).alloc _) (fun h => h)⟩
  have H0 := Aside0.mk H3.out.1
  have HBL := Aside0.mk H3.out.2
  generalize ((w3.alloc (.map #[] 0)).alloc (.cells #[.string s, .map (some w3.heap.size), .slice none 0 0, .int .i64 0] 51)) = W4 at *
  have hx2 : w3.heap.size ≤ w3.heap.size + 1 := Nat.le_succ _
  clear H3 hmm hB1 hB2
  go_loopw [5] (fun v5 wr => ∃ (a : Nat) (L : List Int), v5 = .int .i64 (a : Int) ∧ a ≤ s.size ∧ L.length ≤ 40 * a + 3 ∧ Aside0 (FxAt w3 wr w.heap.size g nt at_ (w3.heap.size + 1) s a L ∧ L ++ fixG s (s.size + 1 - a) a = fixBits s)) (fun v5 _ => s.size - (intOf v5).toNat)
  case atStart => exact ⟨0, _, rfl, by omega, by decide, ⟨HX0.out, rfl⟩⟩
  case round =>
    clear HX0
    obtain ⟨a, L, rfl, ha, hLa, HR⟩ := hrel
    by_cases hlt : a < s.size
    · have q1 : decide ((a : Int) < (s.size : Int)) = true := decide_eq_true (by omega)
      have q1n : decide (a < s.size) = true := decide_eq_true hlt
      obtain ⟨d, hd, hF⟩ := HR.out.1.fd
      have HFC := Aside0.mk (ffind_calls wr w3.heap.size (w3.heap.size + 1) s d a hF hd (by omega) hs HR.out.1.fr.size)
      have HFT := Aside0.mk hF
      have heq := HR.out.2
      rw [fixG_eq s a ha, if_pos hlt] at heq
      have hfo := find_ok s a ha
      have hfl := find_le s a ha
      obtain ⟨n, hn⟩ : ∃ n, n = (findF s a).1 := ⟨_, rfl⟩
      obtain ⟨bk, hbk⟩ : ∃ bk, bk = (findF s a).2 := ⟨_, rfl⟩
      rw [← hn, ← hbk] at heq hfo HFC
      rw [← hn] at hfl
      have HEQ := Aside0.mk heq
      clear hF heq hn hbk
      go_wp2_with fail
      refine HFC.out.mono ?_
      rintro e w5 ⟨rfl, hF5, hf5⟩
      have HX5 : Aside0 (FxAt w3 w5 w.heap.size g nt at_ (w3.heap.size + 1) s a L) := ⟨⟨HR.out.1.wr.frF HFT.out (by decide) hg3 hf5, ⟨a, Nat.le_refl _, hF5⟩, HR.out.1.fr.suF hf5 (Nat.le_refl _) hx2⟩⟩
      have HC5 := Aside0.mk (HX5.out.coder H0.out)
      have hB5 : w.heap.size ≤ w5.heap.size := Nat.le_trans hB3 HX5.out.fr.size
      clear HFC hF5 hf5 HFT HR
      by_cases hn3 : n < 3
      · have q2 : decide ((n : Int) < 3) = true := decide_eq_true (by omega)
        have q2n : decide (n < 3) = true := decide_eq_true hn3
        have heq := HEQ.out
        rw [if_pos hn3] at heq
        have hby := bt_byte s (a : Int)
        have a0 : a < s.size := hlt
        have n0 : (s[a].toNat : Int) = bt s (a : Int) := (bt_nat s a a0).symm
        obtain ⟨y, hy⟩ : ∃ y, y = bt s (a : Int) := ⟨_, rfl⟩
        rw [← hy] at hby n0 heq
        obtain ⟨c3, c4⟩ := HC5.out.cells
        have HN := nearw_calls w5.drew w.heap.size g nt at_ y.toNat L (HC5.out.drawn ⟨⟨1, rfl⟩⟩) hB5 (by omega) (by omega)
        rw [show ((y.toNat : Nat) : Int) = y by omega] at HN
        have HN := Aside0.mk HN
        have HEQ2 := Aside0.mk heq
        have hl9 := symB_le y.toNat (by omega)
        have qw : IntKind.i64.wrap y = y := IntWalk.i64_in _ (by omega)
        clear hy heq HEQ c4
        go_wp2_with fail
        go_region_held3 (fun w' => w'.cell? ⟨g, 3, none⟩ = some (.pointer (some ⟨nt, 0, none⟩))) (first | exact c3 | exact e3) ((go_at_call 25; (with_reducible refine HN.out.mono ?_); rintro e w6 ⟨rfl, hc6, hf6⟩; have e3 := hc6.cells.1))
        have HX6 := Aside0.mk (HX5.out.step hc6 hf6.of_drew hB3)
        clear HN hc6 hf6 e3 c3
        go_wp2_with fail
        go_roundw
        case rel =>
          obtain ⟨d, hd, hF⟩ := HX6.out.fd
          exact ⟨a + 1, _, by go_num, by omega, by rw [List.length_append]; omega, ⟨⟨HX6.out.wr, ⟨d, by omega, hF⟩, HX6.out.fr⟩, by rw [List.append_assoc]; exact HEQ2.out⟩⟩
        case measure => simp [intOf]; omega
      · have q2 : decide ((n : Int) < 3) = false := decide_eq_false (by omega)
        have q2n : decide (n < 3) = false := decide_eq_false hn3
        have heq := HEQ.out
        rw [if_neg hn3] at heq
        have hbr : 1 ≤ bk ∧ bk ≤ 32768 := by
          rcases hfo with h | h
          · omega
          · exact ⟨h.1, h.2.2.1⟩
        have HN := Aside0.mk (copied_calls w5 w.heap.size g nt at_ (n : Int) (bk : Int) L HC5.out hB5 (by omega) (by omega) (by omega))
        have hl9 := copyB_le (n := (n : Int)) (back := (bk : Int)) (by omega) (by omega)
        have HEQ2 := Aside0.mk heq
        clear heq HEQ hfo
        go_wp2_with fail
        refine HN.out.mono ?_
        rintro e w6 ⟨rfl, hc6, hf6⟩
        have HX6 := Aside0.mk (HX5.out.step hc6 hf6 hB3)
        clear HN hc6 hf6
        go_wp2_with fail
        go_roundw
        case rel =>
          obtain ⟨d, hd, hF⟩ := HX6.out.fd
          exact ⟨a + n, _, by go_num, by omega, by rw [List.length_append]; omega, ⟨⟨HX6.out.wr, ⟨d, by omega, hF⟩, HX6.out.fr⟩, by rw [List.append_assoc]; exact HEQ2.out⟩⟩
        case measure => simp [intOf]; omega
    · have q1 : decide ((a : Int) < (s.size : Int)) = false := decide_eq_false (by omega)
      have q1n : decide (a < s.size) = false := decide_eq_false hlt
      have heq := HR.out.2
      rw [fixG_eq s a ha, if_neg hlt] at heq
      have HC5 := Aside0.mk (HR.out.1.coder H0.out)
      have hB5 : w.heap.size ≤ wr.heap.size := Nat.le_trans hB3 HR.out.1.fr.size
      have HN := nearw_calls wr.drew w.heap.size g nt at_ 256 L (HC5.out.drawn ⟨⟨1, rfl⟩⟩) hB5 (by omega) (by omega)
      rw [show ((256 : Nat) : Int) = 256 from rfl] at HN
      have HN := Aside0.mk HN
      obtain ⟨c3, c4⟩ := HC5.out.cells
      have HEQ := Aside0.mk heq
      clear heq c4
      go_wp2_with fail
      go_region_held3 (fun w' => w'.cell? ⟨g, 3, none⟩ = some (.pointer (some ⟨nt, 0, none⟩))) (first | exact c3 | exact e3) ((go_at_call 25; (with_reducible refine HN.out.mono ?_); rintro e w6 ⟨rfl, hc6, hf6⟩; have e3 := hc6.cells.1))
      have hl9 := symB_le 256 (by omega)
      have HT := Aside0.mk (wr_text w6 w.heap.size g _ _ _ hc6.wr (by rw [List.length_append]; omega))
      have HB6 : Aside0 (Below w.heap.size w w6) := ⟨HBL.out.trans ((HR.out.1.fr.su hf6.of_drew).suBelow hg (Nat.le_refl _) hB3)⟩
      clear HN hc6 hf6 e3 c3
      go_wp2_with fail
      refine HT.out.mono ?_
      rintro e w7 ⟨t, rfl, ht, hb7⟩
      go_wp2_with fail
      repeat (rw [Exit.noGoto_ret])
      go_returns
      rw [HEQ.out] at ht
      obtain rfl := TextOf.textL ht
      exact ⟨rfl, HB6.out.trans (hb7.mono HB6.out.size)⟩
end Go.Proofs.Ytfoicjlkbkjfjaa.Hand
namespace Go.Proofs.Ytfoicjlkbkjfjaa.Hand
open Go.RowKit Go.Proofs.YtfoicjlkbkjfjaaW.PrintWords Go.Proofs.YtfoicjlkbkjfjaaW.PrintLast Go.Proofs.YtfoicjlkbkjfjaaW.PrintMore Go.Proofs.Ytfoicjlkbkjfjaa.Num Go.Proofs.Ytfoicjlkbkjfjaa.Bits
set_option linter.unusedVariables false
set_option linter.unusedSimpArgs false
theorem s_xor (a : Nat) (h : a < 65536) : bits .xor .i64 65535 (a : Int) = 65535 - (a : Int) := by
  have h3 : 65535 ^^^ a = 65535 - a := by
    refine Nat.eq_of_testBit_eq (fun i => ?_)
    rw [Nat.testBit_xor, show 65535 - a = 2 ^ 16 - (a + 1) by omega, Nat.testBit_two_pow_sub_succ (by omega), show (65535 : Nat) = 2 ^ 16 - 1 from rfl, Nat.testBit_two_pow_sub_one]
    by_cases hi : i < 16
    · simp [hi]
    · have : a.testBit i = false := Nat.testBit_lt_two_pow (Nat.lt_of_lt_of_le h (Nat.pow_le_pow_right (n := 2) (i := 16) (by decide) (by omega)))
      simp [hi, this]
  have h2 : (BitVec.ofInt 64 (a : Int)).toNat = a := by rw [BitVec.ofInt_natCast, BitVec.toNat_ofNat]; exact Nat.mod_eq_of_lt (by omega)
  have h1 : (BitVec.ofInt 64 (65535 : Int)).toNat = 65535 := by decide
  show IntKind.i64.wrap ((BitVec.ofInt 64 (65535 : Int) ^^^ BitVec.ofInt 64 (a : Int)).toNat : Int) = _
  rw [BitVec.toNat_xor, h1, h2, IntKind.wrap_i64, h3]
  omega
theorem bytes_extract_succ (s : ByteArray) (i : Nat) (h : i < s.size) : bytesOf (s.extract 0 (i + 1)) = bytesOf (s.extract 0 i) ++ [bt s i] := by
  have h2 : (bytesOf s)[i]? = some (bt s i) := by rw [bytesOf_get?, if_pos h]
  rw [bytesOf_extract, bytesOf_extract, List.drop_zero, List.drop_zero, List.take_add_one, h2]
  rfl
theorem alignL_le (L : List Int) : (alignL L).length ≤ L.length + 7 := by
  unfold alignL
  rw [List.length_append, List.length_replicate]
  omega
theorem headB_le (s : ByteArray) (L : List Int) : (headB s L).length ≤ L.length + 42 := by
  unfold headB
  simp only [List.length_append, bitsN_length]
  have := alignL_le (L ++ bitsN (if s.size ≤ 65535 then 1 else 0) 1 ++ bitsN 0 2)
  simp only [List.length_append, bitsN_length] at this
  omega
set_option maxRecDepth 100000 in
set_option maxHeartbeats 1500000 in
theorem sstored_calls (w : World) (s : ByteArray) (hs : s.size ≤ 100000) :
    Calls Try.prog 10 #[.string s] w fun e w' => e = .returned (.string (storeF s)) ∧ Below w.heap.size w w' := by
  go_enter Try.func10, Try.ntmps10
  go_wp2_with fail
  have hW := WrAt.new w w.heap.size
  have hB := below_alloc (Below.refl w.heap.size w) (.cells #[.int .i64 0, .int .i64 0, .slice none 0 0] 39)
  have H0 : Aside0 (_ ∧ _) := ⟨hW, hB⟩
  generalize (w.alloc (.cells #[.int .i64 0, .int .i64 0, .slice none 0 0] 39)) = W0 at *
  clear hW hB
  go_loopw [0] (fun v0 wr => ∃ (k : Nat) (s2 : ByteArray) (L : List Int), v0 = .string s2 ∧ s2.size ≤ 100000 ∧ s2.size < 65535 * k ∧ L.length + 20 * s2.size ≤ 2000100 ∧ Aside0 (storeB k s2 L = storeB (s.size / 65535 + 1) s [] ∧ WrAt wr w.heap.size w.heap.size 39 [] L ∧ Below w.heap.size w wr)) (fun v0 _ => (match v0 with | .string t => t.size | _ => 0))
  case atStart => exact ⟨_, s, [], rfl, hs, by omega, by simp; omega, ⟨rfl, H0.out.1, H0.out.2⟩⟩
  case round =>
    clear H0
    obtain ⟨k, s2, L, rfl, hs2, hk, hL, HR⟩ := hrel
    obtain ⟨k, rfl⟩ : ∃ k', k = k' + 1 := ⟨k - 1, by omega⟩
    have heq := HR.out.1
    rw [storeB] at heq
    obtain ⟨n, hn⟩ : ∃ n : Nat, n = min s2.size 65535 := ⟨_, rfl⟩
    have q1 : min (s2.size : Int) 65535 = (n : Int) := by omega
    have hn1 : n ≤ 65535 := by omega
    have hn2 : n ≤ s2.size := by omega
    have HN := Aside0.mk hn
    clear hn
    by_cases hl : s2.size ≤ 65535
    · obtain rfl : n = s2.size := by have := HN.out; omega
      have q2 : ((s2.size : Int) == (s2.size : Int)) = true := by rw [beq_iff_eq]
      rw [if_pos hl] at heq
      have HEQ := Aside0.mk heq
      have HHD : Aside0 (headB s2 L = alignL (L ++ bitsN 1 1 ++ bitsN 0 2) ++ bitsN (s2.size : Int) 16 ++ bitsN (65535 - (s2.size : Int)) 16) := ⟨by unfold headB; rw [if_pos hl, ← HN.out]⟩
      clear heq
      have K1 := Aside0.mk (wr_put wr w.heap.size w.heap.size 39 [] L 1 1 HR.out.2.1 (by decide) (by decide) (by decide) (by decide) (by omega) HR.out.2.2.size)
      go_wp2_with fail
      refine K1.out.mono ?_
      rintro e w1 ⟨rfl, hw1, hf1⟩
      have hB1 : w.heap.size ≤ w1.heap.size := Nat.le_trans HR.out.2.2.size hf1.size
      have K2 := Aside0.mk (wr_put w1 w.heap.size w.heap.size 39 [] _ 0 2 hw1 (by decide) (by decide) (by decide) (by decide) (by rw [List.length_append, bitsN_length]; omega) hB1)
      have F1 := Aside0.mk hf1
      clear hw1 hf1 K1
      go_wp2_with fail
      refine K2.out.mono ?_
      rintro e w2 ⟨rfl, hw2, hf2⟩
      have hB2 : w.heap.size ≤ w2.heap.size := Nat.le_trans hB1 hf2.size
      have K3 := Aside0.mk (wr_align w2 w.heap.size w.heap.size 39 [] _ hw2 (by decide) (by rw [List.length_append, List.length_append, bitsN_length, bitsN_length]; omega) hB2)
      have F2 := Aside0.mk (F1.out.su hf2)
      clear hw2 hf2 K2 F1
      go_wp2_with fail
      refine K3.out.mono ?_
      rintro e w3 ⟨rfl, hw3, hf3⟩
      have hB3 : w.heap.size ≤ w3.heap.size := Nat.le_trans hB2 hf3.size
      have hal := alignL_le (L ++ bitsN 1 1 ++ bitsN 0 2)
      rw [List.length_append, List.length_append, bitsN_length, bitsN_length] at hal
      have K4 := Aside0.mk (wr_put w3 w.heap.size w.heap.size 39 [] _ (s2.size : Int) 16 hw3 (by decide) (by omega) (by omega) (by decide) (by omega) hB3)
      have F3 := Aside0.mk (F2.out.su hf3)
      clear hw3 hf3 K3 F2
      go_wp2_with fail
      have K4 := K4.out
      rw [show ((16 : Nat) : Int) = 16 from rfl] at K4
      refine K4.mono ?_
      rintro e w4 ⟨rfl, hw4, hf4⟩
      have hB4 : w.heap.size ≤ w4.heap.size := Nat.le_trans hB3 hf4.size
      have hxr := s_xor s2.size (by omega)
      have K5 := Aside0.mk (wr_put w4 w.heap.size w.heap.size 39 [] _ (65535 - (s2.size : Int)) 16 hw4 (by decide) (by omega) (by omega) (by decide) (by rw [List.length_append, bitsN_length]; omega) hB4)
      rw [← HHD.out] at K5
      have F4 := Aside0.mk (F3.out.su hf4)
      clear hw4 hf4 K4 F3 hal
      go_wp2_with fail
      have K5 := K5.out
      rw [show ((16 : Nat) : Int) = 16 from rfl] at K5
      refine K5.mono ?_
      rintro e w5 ⟨rfl, hw5, hf5⟩
      have F5 : Aside0 (_ ∧ _) := ⟨hw5, HR.out.2.2.trans ((F4.out.su hf5).suBelow (Nat.le_refl _) (Nat.le_refl _) HR.out.2.2.size)⟩
      have hhd := headB_le s2 L
      clear hw5 hf5 K5 F4 HR hxr hB1 hB2 hB3 hB4
      go_wp2_with fail
      go_loopw [24] (fun v24 wq => ∃ i : Nat, v24 = .int .i64 (i : Int) ∧ i ≤ s2.size ∧ Aside0 (WrAt wq w.heap.size w.heap.size 39 [] (headB s2 L ++ flat (bytesOf (s2.extract 0 i))) ∧ Below w.heap.size w wq)) (fun v24 _ => s2.size - (intOf v24).toNat)
      case atStart => exact ⟨0, rfl, by omega, ⟨by
        have e : flat (bytesOf (s2.extract 0 0)) = [] := by rw [bytesOf_extract]; rfl
        rw [e, List.append_nil]; exact F5.out.1, F5.out.2⟩⟩
      case round =>
        clear F5
        obtain ⟨i, rfl, hi, HW⟩ := hrel
        have hlen : (bytesOf (s2.extract 0 i)).length = i := by rw [bytesOf_length, ByteArray.size_extract]; omega
        by_cases hlt : i < s2.size
        · have r1 : decide ((i : Int) < (s2.size : Int)) = true := decide_eq_true (by omega)
          have r1n : decide (i < s2.size) = true := decide_eq_true hlt
          have hby := bt_byte s2 (i : Int)
          have a0 : i < s2.size := by omega
          have n0 : (s2[i].toNat : Int) = bt s2 (i : Int) := (bt_nat s2 i a0).symm
          have HS := Aside0.mk (bytes_extract_succ s2 i a0)
          obtain ⟨y, hy⟩ : ∃ y, y = bt s2 (i : Int) := ⟨_, rfl⟩
          rw [← hy] at hby n0 HS
          have qw : IntKind.i64.wrap y = y := IntWalk.i64_in _ (by omega)
          have K6 := Aside0.mk (wr_put wr w.heap.size w.heap.size 39 [] _ y 8 HW.out.1 (by decide) hby.1 (by omega) (by decide) (by rw [List.length_append, flat_length, hlen]; omega) HW.out.2.size)
          clear hy
          go_wp2_with fail
          have K6 := K6.out
          rw [show ((8 : Nat) : Int) = 8 from rfl] at K6
          refine K6.mono ?_
          rintro e w6 ⟨rfl, hw6, hf6⟩
          have F6 : Aside0 (_ ∧ _) := ⟨hw6, HW.out.2.trans (hf6.suBelow (Nat.le_refl _) (Nat.le_refl _) HW.out.2.size)⟩
          clear hw6 hf6 K6
          go_wp2_with fail
          go_roundw
          case rel => exact ⟨i + 1, by go_num, by omega, ⟨by rw [HS.out, flat_snoc, ← List.append_assoc]; exact F6.out.1, F6.out.2⟩⟩
          case measure => simp [intOf]; omega
        · have r1 : decide ((i : Int) < (s2.size : Int)) = false := decide_eq_false (by omega)
          have r1n : decide (i < s2.size) = false := decide_eq_false hlt
          obtain rfl : i = s2.size := by omega
          rw [ByteArray.extract_zero_size] at HW
          have HT := Aside0.mk (wr_text wr w.heap.size w.heap.size _ _ _ HW.out.1 (by rw [List.length_append, flat_length, bytesOf_length]; omega))
          go_wp2_with fail
          refine HT.out.mono ?_
          rintro e w7 ⟨t, rfl, ht, hb7⟩
          go_wp2_with fail
          go_returns
          rw [HEQ.out] at ht
          obtain rfl := TextOf.textL ht
          exact ⟨rfl, HW.out.2.trans (hb7.mono HW.out.2.size)⟩
    · obtain rfl : n = 65535 := by have := HN.out; omega
      have q2 : ((65535 : Int) == (s2.size : Int)) = false := by rw [beq_eq_false_iff_ne]; omega
      rw [if_neg hl] at heq
      have HEQ := Aside0.mk heq
      have HHD : Aside0 (headB s2 L = alignL (L ++ bitsN 0 1 ++ bitsN 0 2) ++ bitsN (65535 : Int) 16 ++ bitsN (65535 - (65535 : Int)) 16) := ⟨by unfold headB; rw [if_neg hl, ← HN.out]; rfl⟩
      clear heq
      have K1 := Aside0.mk (wr_put wr w.heap.size w.heap.size 39 [] L 0 1 HR.out.2.1 (by decide) (by decide) (by decide) (by decide) (by omega) HR.out.2.2.size)
      go_wp2_with fail
      refine K1.out.mono ?_
      rintro e w1 ⟨rfl, hw1, hf1⟩
      have hB1 : w.heap.size ≤ w1.heap.size := Nat.le_trans HR.out.2.2.size hf1.size
      have K2 := Aside0.mk (wr_put w1 w.heap.size w.heap.size 39 [] _ 0 2 hw1 (by decide) (by decide) (by decide) (by decide) (by rw [List.length_append, bitsN_length]; omega) hB1)
      have F1 := Aside0.mk hf1
      clear hw1 hf1 K1
      go_wp2_with fail
      refine K2.out.mono ?_
      rintro e w2 ⟨rfl, hw2, hf2⟩
      have hB2 : w.heap.size ≤ w2.heap.size := Nat.le_trans hB1 hf2.size
      have K3 := Aside0.mk (wr_align w2 w.heap.size w.heap.size 39 [] _ hw2 (by decide) (by rw [List.length_append, List.length_append, bitsN_length, bitsN_length]; omega) hB2)
      have F2 := Aside0.mk (F1.out.su hf2)
      clear hw2 hf2 K2 F1
      go_wp2_with fail
      refine K3.out.mono ?_
      rintro e w3 ⟨rfl, hw3, hf3⟩
      have hB3 : w.heap.size ≤ w3.heap.size := Nat.le_trans hB2 hf3.size
      have hal := alignL_le (L ++ bitsN 0 1 ++ bitsN 0 2)
      rw [List.length_append, List.length_append, bitsN_length, bitsN_length] at hal
      have K4 := Aside0.mk (wr_put w3 w.heap.size w.heap.size 39 [] _ (65535 : Int) 16 hw3 (by decide) (by omega) (by omega) (by decide) (by omega) hB3)
      have F3 := Aside0.mk (F2.out.su hf3)
      clear hw3 hf3 K3 F2
      go_wp2_with fail
      have K4 := K4.out
      rw [show ((16 : Nat) : Int) = 16 from rfl] at K4
      refine K4.mono ?_
      rintro e w4 ⟨rfl, hw4, hf4⟩
      have hB4 : w.heap.size ≤ w4.heap.size := Nat.le_trans hB3 hf4.size
      have hxr := s_xor 65535 (by omega)
      have K5 := Aside0.mk (wr_put w4 w.heap.size w.heap.size 39 [] _ (65535 - (65535 : Int)) 16 hw4 (by decide) (by omega) (by omega) (by decide) (by rw [List.length_append, bitsN_length]; omega) hB4)
      rw [← HHD.out] at K5
      have F4 := Aside0.mk (F3.out.su hf4)
      clear hw4 hf4 K4 F3 hal
      go_wp2_with fail
      have K5 := K5.out
      rw [show ((16 : Nat) : Int) = 16 from rfl] at K5
      refine K5.mono ?_
      rintro e w5 ⟨rfl, hw5, hf5⟩
      have F5 : Aside0 (_ ∧ _) := ⟨hw5, HR.out.2.2.trans ((F4.out.su hf5).suBelow (Nat.le_refl _) (Nat.le_refl _) HR.out.2.2.size)⟩
      have hhd := headB_le s2 L
      clear hw5 hf5 K5 F4 HR hxr hB1 hB2 hB3 hB4
      go_wp2_with fail
      go_loopw [24] (fun v24 wq => ∃ i : Nat, v24 = .int .i64 (i : Int) ∧ i ≤ 65535 ∧ Aside0 (WrAt wq w.heap.size w.heap.size 39 [] (headB s2 L ++ flat (bytesOf (s2.extract 0 i))) ∧ Below w.heap.size w wq)) (fun v24 _ => 65535 - (intOf v24).toNat)
      case atStart => exact ⟨0, rfl, by omega, ⟨by
        have e : flat (bytesOf (s2.extract 0 0)) = [] := by rw [bytesOf_extract]; rfl
        rw [e, List.append_nil]; exact F5.out.1, F5.out.2⟩⟩
      case round =>
        clear F5
        obtain ⟨i, rfl, hi, HW⟩ := hrel
        have hlen : (bytesOf (s2.extract 0 i)).length = i := by rw [bytesOf_length, ByteArray.size_extract]; omega
        by_cases hlt : i < 65535
        · have r1 : decide ((i : Int) < (65535 : Int)) = true := decide_eq_true (by omega)
          have r1n : decide (i < 65535) = true := decide_eq_true hlt
          have hby := bt_byte s2 (i : Int)
          have a0 : i < s2.size := by omega
          have n0 : (s2[i].toNat : Int) = bt s2 (i : Int) := (bt_nat s2 i a0).symm
          have HS := Aside0.mk (bytes_extract_succ s2 i a0)
          obtain ⟨y, hy⟩ : ∃ y, y = bt s2 (i : Int) := ⟨_, rfl⟩
          rw [← hy] at hby n0 HS
          have qw : IntKind.i64.wrap y = y := IntWalk.i64_in _ (by omega)
          have K6 := Aside0.mk (wr_put wr w.heap.size w.heap.size 39 [] _ y 8 HW.out.1 (by decide) hby.1 (by omega) (by decide) (by rw [List.length_append, flat_length, hlen]; omega) HW.out.2.size)
          clear hy
          go_wp2_with fail
          have K6 := K6.out
          rw [show ((8 : Nat) : Int) = 8 from rfl] at K6
          refine K6.mono ?_
          rintro e w6 ⟨rfl, hw6, hf6⟩
          have F6 : Aside0 (_ ∧ _) := ⟨hw6, HW.out.2.trans (hf6.suBelow (Nat.le_refl _) (Nat.le_refl _) HW.out.2.size)⟩
          clear hw6 hf6 K6
          go_wp2_with fail
          go_roundw
          case rel => exact ⟨i + 1, by go_num, by omega, ⟨by rw [HS.out, flat_snoc, ← List.append_assoc]; exact F6.out.1, F6.out.2⟩⟩
          case measure => simp [intOf]; omega
        · have r1 : decide ((i : Int) < (65535 : Int)) = false := decide_eq_false (by omega)
          have r1n : decide (i < 65535) = false := decide_eq_false hlt
          obtain rfl : i = 65535 := by omega
          have hxs : (s2.extract 65535 s2.size).size = s2.size - 65535 := by rw [ByteArray.size_extract]; omega
          have hi5 : Aside0 ((65535 : Nat) = 65535) := ⟨rfl⟩
          go_wp2_with fail
          go_roundw
          case rel => exact ⟨k, s2.extract 65535 s2.size, _, rfl, by omega, by have := hi5.out; omega, by rw [List.length_append, flat_length, hlen, hxs]; have := hi5.out; omega, ⟨by rw [← HEQ.out, hi5.out], HW.out⟩⟩
          case measure => show (s2.extract 65535 s2.size).size < s2.size; have := hi5.out; omega
end Go.Proofs.Ytfoicjlkbkjfjaa.Hand
namespace Go.Proofs.Ytfoicjlkbkjfjaa.Hand
open Go.RowKit Go.Proofs.YtfoicjlkbkjfjaaW.PrintWords Go.Proofs.YtfoicjlkbkjfjaaW.PrintLast Go.Proofs.YtfoicjlkbkjfjaaW.PrintMore Go.Proofs.Ytfoicjlkbkjfjaa.Num Go.Proofs.Ytfoicjlkbkjfjaa.Bits
set_option linter.unusedVariables false
set_option linter.unusedSimpArgs false
def squeeze_Stored.f (a0 : ByteArray) : Option ByteArray := if a0.size ≤ 100000 then some (storeF a0) else none
theorem squeeze_Stored.calls (a0 : ByteArray) (r : ByteArray) (w : World) (h : squeeze_Stored.f a0 = some r) :
    Calls Try.prog 10 #[.string a0] w fun e w' => e = .returned (.string r) ∧ Below w.heap.size w w' := by
  unfold squeeze_Stored.f at h
  split at h
  · rename_i hs
    injection h with h
    subst h
    exact sstored_calls w a0 hs
  · cases h
def squeeze_Fixed.f (a0 : ByteArray) : Option ByteArray := if a0.size ≤ 100000 then some (fixF a0) else none
theorem squeeze_Fixed.calls (a0 : ByteArray) (r : ByteArray) (w : World) (h : squeeze_Fixed.f a0 = some r) :
    Calls Try.prog 13 #[.string a0] w fun e w' => e = .returned (.string r) ∧ Below w.heap.size w w' := by
  unfold squeeze_Fixed.f at h
  split at h
  · rename_i hs
    injection h with h
    subst h
    exact sfixed_calls w a0 hs
  · cases h
end Go.Proofs.Ytfoicjlkbkjfjaa.Hand
