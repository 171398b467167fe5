/- binderylaw09.CodesWrites answers true: walked by hand over the contracts of layer 9. -/
import Derived.Test.YtcphjcggnblnkaaHand09t
import Derived.Test.YtcphjcggnblnkaaLem08b
import Derived.Handy
namespace Go.Proofs.Ytcphjcggnblnkaa.Hand
open Go.RowKit Go.Proofs.YtcphjcggnblnkaaW.PrintWords Go.Proofs.YtcphjcggnblnkaaW.PrintLast Go.Proofs.YtcphjcggnblnkaaW.PrintMore Go.Proofs.Ytcphjcggnblnkaa.Num Go.Proofs.Ytcphjcggnblnkaa.Bits Go.Proofs.Ytcphjcggnblnkaa.P09r Go.Proofs.Ytcphjcggnblnkaa.P08
set_option linter.unusedVariables false
set_option linter.unusedSimpArgs false
theorem refput9_calls (w : World) (A : Option Addr) (c n : Nat) (L : List Int) (k : Int) (hr : ReadsInt w .i64 A L.length L) (hc : L.length ≤ c) (hL : L.length ≤ 10000000) (hn : n ≤ 15) (h0 : 0 ≤ k) (h1 : k ≤ 40000000) :
    Calls Try.prog 38 #[.slice A L.length c, .int .i64 (n : Int), .int .i64 k] w fun e w' => ∃ v, e = .returned v ∧ Row w' w.heap.size 3 .i64 v (L ++ revB k n) ∧ Below w.heap.size w w' := by
  obtain ⟨q, hq⟩ := (put_ev L n k hL hn h0 h1).rounds
  exact (binderyref09_Put.calls q A c L n k _ w (kdC_reads hr) hc hq).mono fun e w' ⟨v, h1, h2, h3⟩ => ⟨v, h1, Kd.own_of_R h2, h3⟩
/-- What the law's loop holds. -/
structure WMid (w W : World) (v1 v : Value) (l L : List Int) (tb g : Nat) : Prop where
  cs : Row W w.heap.size 3 .i64 v1 (codesF l)
  bits : Row W w.heap.size 3 .i64 v L
  tr : Tr W w.heap.size tb l
  wr : WrAt W w.heap.size g 28 [] L
  below : Below w.heap.size w W
  gw : w.heap.size ≤ g
theorem WMid.below_ {w W W' : World} {v1 v : Value} {l L : List Int} {tb g : Nat} (h : WMid w W v1 v l L tb g) (hb : Below W.heap.size W W') : WMid w W' v1 v l L tb g :=
  ⟨h.cs.below hb, h.bits.below hb, h.tr.below hb, h.wr.below hb, h.below.trans (hb.mono h.below.size), h.gw⟩
theorem WMid.drawn {w W W' : World} {v1 v : Value} {l L : List Int} {tb g : Nat} (h : WMid w W v1 v l L tb g) (hd : Drawn0 W W') : WMid w W' v1 v l L tb g := by
  obtain ⟨n, rfl⟩ := hd.out
  exact ⟨h.cs, h.bits, h.tr.drawn ⟨n, rfl⟩, h.wr.drawn ⟨n, rfl⟩, pw_below_drewN h.below n, h.gw⟩
/-- Behind a writing, the document's bits are behind by one. -/
structure WHalf (w W : World) (v1 v : Value) (l L L2 : List Int) (tb g : Nat) : Prop where
  cs : Row W w.heap.size 3 .i64 v1 (codesF l)
  bits : Row W w.heap.size 3 .i64 v L
  tr : Tr W w.heap.size tb l
  wr : WrAt W w.heap.size g 28 [] L2
  below : Below w.heap.size w W
  gw : w.heap.size ≤ g
theorem WMid.wrote {w W W' : World} {v1 v : Value} {l L L' : List Int} {tb g : Nat} (h : WMid w W v1 v l L tb g) (k : WrAt W' w.heap.size g 28 [] L') (hf : Fr W W' (SU w.heap.size g W)) : WHalf w W' v1 v l L L' tb g :=
  ⟨h.cs.frW h.wr hf, h.bits.frW h.wr hf, h.tr.fr h.wr hf, k, h.below.trans (hf.suBelow h.gw (Nat.le_refl _) h.below.size), h.gw⟩
theorem WHalf.put {w W W' : World} {v1 v v' : Value} {l L L' : List Int} {tb g : Nat} (h : WHalf w W v1 v l L L' tb g) (hb : Below W.heap.size W W') (hr : Row W' w.heap.size 3 .i64 v' L') : WMid w W' v1 v' l L' tb g :=
  ⟨h.cs.below hb, hr, h.tr.below hb, h.wr.below hb, h.below.trans (hb.mono h.below.size), h.gw⟩
theorem twrite_ok (W : World) (B tb g k : Nat) (l L : List Int) (hm : mayF l = 0) (hT : Tr W B tb l) (hW : WrAt W B g 28 [] L) (hB : B ≤ W.heap.size) (hk : k < l.length) (n : Nat) (hn : l.getD k 0 = (n : Int)) (h0 : 0 < n) (hL : L.length ≤ 10000000) :
    Calls Try.prog 37 #[.pointer (some ⟨tb, 0, none⟩), .pointer (some ⟨g, 0, none⟩), .int .i64 (k : Int)] W fun e w' => e = .returned (.int .i64 0) ∧ WrAt w' B g 28 [] (L ++ revB ((codesF l).getD k 0) n) ∧ Fr W w' (SU B g W) := by
  obtain ⟨c1, c2, c3, c4, c5⟩ := code_between hm k hk n hn h0
  have hp := pow_le2 (show n ≤ 15 by omega)
  exact write_ok W B tb g l (codesF l) (cntL l) (symA l 16) (lgA l 16) k n L hT hW hB hk (by rw [codesF_length hm]; exact hk) hn (by omega) c3 c5 (by omega) hL
set_option maxRecDepth 100000 in
set_option maxHeartbeats 4000000 in
theorem codesWrites_core (A : Option Addr) (c : Nat) (l : List Int) (A0 : Option Addr) (c0 : Nat) (sy : List Int) (w : World) (hr : ReadsInt w .i64 A l.length l) (hc : l.length ≤ c) (hm : l.length ≤ maxLen) (hr0 : ReadsInt w .i64 A0 sy.length sy) (hc0 : sy.length ≤ c0) (hm0 : sy.length ≤ maxLen) :
    Calls Try.prog 9 #[.slice A l.length c, .slice A0 sy.length c0] w fun e w' => e = .returned (.bool true) ∧ Below w.heap.size w w' := by
  have hml := hm
  have hml0 := hm0
  unfold maxLen at hml hml0
  by_cases h1 : 320 < l.length ∨ 60 < sy.length
  · clear hm hr hm0 hr0
    by_cases h2 : 320 < l.length
    · have q2 : decide ((320 : Int) < (l.length : Int)) = true := decide_eq_true (by omega)
      have q2n : decide (320 < l.length) = true := decide_eq_true h2
      clear h1 hml hml0
      go_enter Try.func9, Try.ntmps9
      go_wp2_with fail
      refine (trees_true _).mono ?_
      rintro e w1 ⟨rfl, hb1⟩
      go_wp2_with fail
      go_returns
      exact ⟨rfl, hb1⟩
    · have q2 : decide ((320 : Int) < (l.length : Int)) = false := decide_eq_false (by omega)
      have q2n : decide (320 < l.length) = false := decide_eq_false h2
      have q3 : decide ((60 : Int) < (sy.length : Int)) = true := decide_eq_true (by omega)
      have q3n : decide (60 < sy.length) = true := decide_eq_true (by omega)
      clear h1 hml hml0
      go_enter Try.func9, Try.ntmps9
      go_wp2_with fail
      refine (trees_true _).mono ?_
      rintro e w1 ⟨rfl, hb1⟩
      go_wp2_with fail
      go_returns
      exact ⟨rfl, hb1⟩
  · have q2 : decide ((320 : Int) < (l.length : Int)) = false := decide_eq_false (by omega)
    have q2n : decide (320 < l.length) = false := decide_eq_false (by omega)
    have q3 : decide ((60 : Int) < (sy.length : Int)) = false := decide_eq_false (by omega)
    have q3n : decide (60 < sy.length) = false := decide_eq_false (by omega)
    have hs60 : sy.length ≤ 60 := by omega
    have HR := Aside0.mk hr
    have HR0 := Aside0.mk hr0
    have HC2 := fun (W : World) (h : ReadsInt W .i64 A l.length l) => refcodes_calls A c l W h hc (by omega)
    by_cases hm1 : mayF l = 0
    · have HM := Aside0.mk hm1
      have K3 := Aside0.mk (new_ok A c l w hr hc hm1)
      rw [hm1] at HC2
      have K2 := Aside0.mk HC2
      have HCL := Aside0.mk (codesF_length hm1)
      clear HC2 hm1 hr hm h1 hr0 hm0 hml hml0
      go_enter Try.func9, Try.ntmps9
      go_wp2_with fail
      refine K3.out.mono ?_
      rintro e w1 ⟨tb, rfl, ht, htb, hb1⟩
      have H1 : Aside0 (Tr w1 w.heap.size tb l ∧ ReadsInt w1 .i64 A l.length l ∧ Below w.heap.size w w1) := ⟨ht, HR.out.below hb1, hb1⟩
      clear ht htb hb1 K3
      go_wp2_with fail
      refine (K2.out _ H1.out.2.1).mono ?_
      rintro e w2 ⟨v, rfl, hv, hb2⟩
      have H2 : Aside0 (Tr w2 w.heap.size tb l ∧ Below w.heap.size w w2 ∧ Row w2 w.heap.size 3 .i64 v (codesF l)) := ⟨H1.out.1.below hb2, H1.out.2.2.trans (hb2.mono H1.out.2.2.size), hv.lower H1.out.2.2.size⟩
      clear hv hb2 H1 K2
      obtain ⟨A1, c1, rfl, _⟩ := H2.out.2.2.reads
      have HC1 := Aside0.mk (Row.kdC H2.out.2.2).2.1
      have hrow := H2.out.2.2
      have HC1L := HC1.out
      rw [HCL.out] at hrow HC1L
      have M0 : Aside0 (WMid w ((w2.alloc (.cells #[.int .i64 0, .int .i64 0, .slice none 0 0] 28)).alloc (.cells #[] 3)) (.slice A1 l.length c1) (.slice (some ⟨w2.heap.size + 1, 0, none⟩) 0 0) l [] tb w2.heap.size) := by
        have hb := below_alloc (below_alloc (Below.refl w2.heap.size w2) (.cells #[.int .i64 0, .int .i64 0, .slice none 0 0] 28)) (.cells #[] 3)
        have he := Row.empty (w2.alloc (.cells #[.int .i64 0, .int .i64 0, .slice none 0 0] 28)) w.heap.size 3 .i64 (by simp; have := H2.out.2.1.size; omega)
        rw [show (w2.alloc (.cells #[.int .i64 0, .int .i64 0, .slice none 0 0] 28)).heap.size = w2.heap.size + 1 by simp] at he
        exact ⟨⟨hrow.below hb, he, H2.out.1.below hb, (WrAt.new w2 w.heap.size).below (below_alloc (Below.refl _ _) _), H2.out.2.1.trans (hb.mono H2.out.2.1.size), H2.out.2.1.size⟩⟩
      clear H2 HC1 hrow
      have hcl := HCL.out
      go_wp2_with fail
      clear hcl
      obtain ⟨g, hg⟩ : ∃ g, g = w2.heap.size := ⟨_, rfl⟩
      rw [← hg] at M0 ⊢
      clear hg
      go_loopw [10, 11] (fun v10 v11 wr => ∃ (i : Nat) (v : Value) (L : List Int), v = v10 ∧ i ≤ sy.length ∧ v11 = .int .i64 i ∧ L.length ≤ 15 * i ∧ Aside0 (WMid w wr (.slice A1 l.length c1) v l L tb g)) (fun _ v11 _ => sy.length - (intOf v11).toNat)
      case atStart => exact ⟨0, _, [], rfl, by omega, rfl, by simp, M0⟩
      case round =>
        clear M0
        obtain ⟨i, v, L, rfl, hi, rfl, hL, HW⟩ := hrel
        by_cases hlt : i < sy.length
        · have r1 : decide ((i : Int) < (sy.length : Int)) = true := decide_eq_true (by omega)
          have r1n : decide (i < sy.length) = true := decide_eq_true hlt
          obtain ⟨ad, had, hcell⟩ := ReadsInt.at_ HR0.out (i : Int) (by omega) (by omega)
          cases had
          obtain ⟨k, hk⟩ : ∃ k, k = rd sy (i : Int) := ⟨_, rfl⟩
          rw [Int.toNat_natCast, ← hk] at hcell
          have d0 := (HW.out.below.cell (World.block_lt_of_cell? w _ hcell)).trans hcell
          have hL2 : L.length ≤ 10000000 := by omega
          clear hk hcell
          have b1 : ((12 : Int) == 0) = false := by decide
          by_cases hneg : k < 0
          · have r2 : decide (0 ≤ k) = false := decide_eq_false (by omega)
            have KW := Aside0.mk (write_none wr w.heap.size tb g _ _ _ _ _ k HW.out.tr (.inl hneg))
            clear hneg
            go_wp2_with fail
            refine KW.out.mono ?_
            rintro e w3 ⟨rfl, d3⟩
            have HW3 := Aside0.mk (HW.out.drawn d3)
            clear d3 HW KW
            go_wp2_with fail
            go_roundw
            case rel => exact ⟨i + 1, _, L, rfl, by omega, by go_num, by omega, HW3⟩
            case measure => simp [intOf]; omega
          · have r2 : decide (0 ≤ k) = true := decide_eq_true (by omega)
            by_cases hbig : (l.length : Int) ≤ k
            · have r3 : decide (k < (l.length : Int)) = false := decide_eq_false (by omega)
              have KW := Aside0.mk (write_none wr w.heap.size tb g _ _ _ _ _ k HW.out.tr (.inr (.inl hbig)))
              clear hneg hbig
              go_wp2_with fail
              refine KW.out.mono ?_
              rintro e w3 ⟨rfl, d3⟩
              have HW3 := Aside0.mk (HW.out.drawn d3)
              clear d3 HW KW
              go_wp2_with fail
              go_roundw
              case rel => exact ⟨i + 1, _, L, rfl, by omega, by go_num, by omega, HW3⟩
              case measure => simp [intOf]; omega
            · obtain ⟨m, rfl⟩ := Int.eq_ofNat_of_zero_le (show 0 ≤ k by omega)
              have hml : m < l.length := by omega
              have r3 : decide ((m : Int) < (l.length : Int)) = true := decide_eq_true (by omega)
              have r3n : decide (m < l.length) = true := decide_eq_true hml
              obtain ⟨ad1, had1, hcell1⟩ := ReadsInt.at_ HR.out (m : Int) (by omega) (by omega)
              cases had1
              rw [Int.toNat_natCast, rd_nat] at hcell1
              have hx := (may_zero HM.out).2 (l.getD m 0) (by rw [List.getD_eq_getElem?_getD, List.getElem?_eq_getElem hml]; exact List.getElem_mem _)
              obtain ⟨n, hn⟩ := Int.eq_ofNat_of_zero_le hx.1
              rw [hn] at hcell1 hx
              have HN := Aside0.mk hn
              have D1 : Aside0 (∀ W, Below w.heap.size w W → W.cell? (ad1.add m) = some (.int .i64 (n : Int))) := ⟨fun W hb => (hb.cell (World.block_lt_of_cell? w _ hcell1)).trans hcell1⟩
              have d1 := D1.out wr HW.out.below
              clear hneg hbig hcell1 hn
              by_cases hn0 : n = 0
              · subst hn0
                have r4 : decide ((0 : Int) < ((0 : Nat) : Int)) = false := by decide
                have KW := Aside0.mk (write_none wr w.heap.size tb g _ _ _ _ _ (m : Int) HW.out.tr (.inr (.inr ⟨by omega, by omega, by rw [Int.toNat_natCast]; exact HN.out⟩)))
                go_wp2_with fail
                refine KW.out.mono ?_
                rintro e w3 ⟨rfl, d3⟩
                have HW3 := Aside0.mk (HW.out.drawn d3)
                clear d3 HW KW
                go_wp2_with fail
                go_roundw
                case rel => exact ⟨i + 1, _, L, rfl, by omega, by go_num, by omega, HW3⟩
                case measure => simp [intOf]; omega
              · have r4 : decide ((0 : Int) < (n : Int)) = true := decide_eq_true (by omega)
                have r4n : decide (0 < n) = true := decide_eq_true (by omega)
                have KW := Aside0.mk (twrite_ok wr w.heap.size tb g m l L HM.out HW.out.tr HW.out.wr HW.out.below.size hml n HN.out (by omega) hL2)
                have hcb := code_between HM.out m hml n HN.out (by omega)
                obtain ⟨cc, hcc⟩ : ∃ cc, cc = (codesF l).getD m 0 := ⟨_, rfl⟩
                rw [← hcc] at KW hcb
                have hn15 : n ≤ 15 := by omega
                have hcc0 : 0 ≤ cc := hcb.2.2.2.2
                have hcc1 : cc ≤ 40000000 := by have := pow_le2 hn15; have := hcb.2.2.2.1; omega
                have HCC := Aside0.mk hcc
                clear hcb hcc
                go_wp2_with fail
                refine KW.out.mono ?_
                rintro e w3 ⟨rfl, h3, f3⟩
                have HW3 := Aside0.mk (HW.out.wrote h3 f3)
                clear h3 f3 HW KW d0 d1
                obtain ⟨A3, n3, c3, hv3, hn3⟩ := HW3.out.bits.shape
                subst hv3
                obtain rfl := hn3.out
                have HRB := Row.kdC HW3.out.bits
                have KP := Aside0.mk (fun (W : World) (h : Below w3.heap.size w3 W) => refput9_calls W A3 c3 n L cc ((reads_kdC HRB.2.2).below h) HRB.2.1 hL2 hn15 hcc0 hcc1)
                have d1 := D1.out w3 HW3.out.below
                obtain ⟨A4, n4, c4, hv4, hn4⟩ := (show ∃ A n c, Value.slice A1 l.length c1 = .slice A n c ∧ Aside0 (n = l.length) from ⟨_, _, _, rfl, ⟨rfl⟩⟩)
                obtain ⟨ad2, had2, hcell2⟩ := ReadsInt.at_ (reads_kdC (Row.kdC (by have h := HW3.out.cs; rw [← HCL.out] at h; exact h)).2.2) (m : Int) (by omega) (by rw [HCL.out]; omega)
                cases had2
                rw [Int.toNat_natCast, rd_nat, ← HCC.out] at hcell2
                have D2 : Aside0 (∀ W, Below w3.heap.size w3 W → W.cell? (ad2.add m) = some (.int .i64 cc)) := ⟨fun W hb => (hb.cell (World.block_lt_of_cell? w3 _ hcell2)).trans hcell2⟩
                clear HRB hv4 hn4 hn3
                go_wp2_with fail
                go_region_held3 (fun w' => w'.cell? (ad1.add m) = some (.int .i64 (n : Int)) ∧ w'.cell? (ad2.add m) = some (.int .i64 cc)) (first | exact ⟨d1, hcell2⟩ | exact ⟨D1.out _ hbw4, D2.out _ hb4⟩) ((go_at_call 38; refine (KP.out _ (below_drew (Below.refl _ _))).mono ?_; rintro e w4 ⟨v4, rfl, hv4, hb4'⟩; have hb4 : Below w3.heap.size w3 w4 := (below_drew (Below.refl _ _)).trans hb4'; have hbw4 : Below w.heap.size w w4 := HW3.out.below.trans (hb4.mono HW3.out.below.size)))
                have HW4 := Aside0.mk (HW3.out.put hb4 (hv4.lower (by simp; exact HW3.out.below.size)))
                have hLn : (L ++ revB cc n).length ≤ 15 * (i + 1) := by rw [List.length_append, revB_length]; omega
                clear hv4 hb4' hb4 hbw4 KP d1 hcell2 D1 D2 HW3
                go_wp2_with fail
                go_roundw
                case rel => exact ⟨i + 1, _, _, rfl, by omega, by go_num, hLn, HW4⟩
                case measure => simp [intOf]; omega
        · have r1 : decide ((i : Int) < (sy.length : Int)) = false := decide_eq_false (by omega)
          have r1n : decide (i < sy.length) = false := decide_eq_false hlt
          have hL3 : L.length ≤ 10000000 := by omega
          obtain ⟨A3, n3, c3, hv3, hn3⟩ := HW.out.bits.shape
          subst hv3
          obtain rfl := hn3.out
          obtain ⟨kT, sT, hT, hTx⟩ : ∃ (kT : Nat) (sT : ByteArray), binderyref08_Text.f kT L = some sT ∧ TextOf L sT := by
            obtain ⟨x, m, u, xs, _, _, hh⟩ := HW.out.wr.open_
            obtain ⟨kT, hT⟩ := text_f hh hL3
            exact ⟨kT, _, hT, hh.text⟩
          have HX : Aside0 (_ ∧ _) := ⟨hT, hTx⟩
          clear hT hTx hn3 hL
          go_wp2_with fail
          refine (wr_len _ _ _ _ _ _ HW.out.wr (by omega)).mono ?_
          rintro e w3 ⟨rfl, d3⟩
          have HT3 := Aside0.mk (HW.out.drawn d3)
          clear d3 HW
          have e1 : ((L.length : Int) == (L.length : Int)) = true := beq_self_eq_true _
          go_wp2_with fail
          refine (wr_text _ _ _ _ _ _ HT3.out.wr (by omega)).mono ?_
          rintro e w4 ⟨s4, rfl, t4, b4⟩
          obtain rfl : s4 = sT := t4.uniq HX.out.2
          have HT4 := Aside0.mk (HT3.out.below_ b4)
          clear t4 b4 HT3
          go_wp2_with fail
          refine (binderyref08_Text.calls kT _ _ L _ _ (Row.kdC HT4.out.bits).2.2 (Row.kdC HT4.out.bits).2.1 HX.out.1).mono ?_
          rintro e w5 ⟨rfl, b5⟩
          have HT5 := Aside0.mk (HT4.out.below_ b5)
          clear b5 HT4 HX
          go_wp2_with fail
          refine (trees_true _).mono ?_
          rintro e w6 ⟨rfl, hb6⟩
          go_wp2_with fail
          go_returns
          exact ⟨rfl, HT5.out.below.trans (hb6.mono HT5.out.below.size)⟩
    · have K3 := Aside0.mk (new_bad A c l w hr hc hm1)
      obtain ⟨my, hmy⟩ : ∃ my, my = mayF l := ⟨_, rfl⟩
      rw [← hmy] at K3 hm1
      simp only [← hmy] at HC2
      have K2 := Aside0.mk HC2
      have e5 : (my != 0) = true := by simpa using hm1
      clear HC2 hm1 hr hm h1 hmy hr0 hm0 hml hml0 hs60
      go_enter Try.func9, Try.ntmps9
      go_wp2_with fail
      refine K3.out.mono ?_
      rintro e w1 ⟨rfl, hb1⟩
      have H1 : Aside0 (ReadsInt w1 .i64 A l.length l ∧ Below w.heap.size w w1) := ⟨HR.out.below hb1, hb1⟩
      clear hb1 K3 HR
      go_wp2_with fail
      refine (K2.out _ H1.out.1).mono ?_
      rintro e w2 ⟨v, rfl, hv, hb2⟩
      have H2 : Aside0 (Below w.heap.size w w2) := ⟨H1.out.2.trans (hb2.mono H1.out.2.size)⟩
      clear hv hb2 H1 K2
      go_wp2_with fail
      refine (trees_true _).mono ?_
      rintro e w8 ⟨rfl, hb8⟩
      go_wp2_with fail
      go_returns
      exact ⟨rfl, H2.out.trans (hb8.mono H2.out.size)⟩
theorem codesWrites_walk (a0 : Option Addr) (len0 cap0 : Nat) (z0 : List Int) (a1 : Option Addr) (len1 cap1 : Nat) (z1 : List Int) (w : World) (w0 : (a0 = none ∧ len0 = 0 ∧ cap0 = 0 ∧ z0 = []) ∨ ∃ x, a0 = some x ∧ len0 ≤ cap0 ∧ cap0 ≤ maxLen ∧ z0.length = cap0 ∧ (∀ i, i < z0.length → w.cell? (x.add i) = some (.int .i64 (z0.getD i 0))) ∧ ∀ n ∈ z0, (Lit.int .i64 n).wf = true) (y0 : len0 * 8 ≤ 140737488351232)
    (w1 : (a1 = none ∧ len1 = 0 ∧ cap1 = 0 ∧ z1 = []) ∨ ∃ x, a1 = some x ∧ len1 ≤ cap1 ∧ cap1 ≤ maxLen ∧ z1.length = cap1 ∧ (∀ i, i < z1.length → w.cell? (x.add i) = some (.int .i64 (z1.getD i 0))) ∧ ∀ n ∈ z1, (Lit.int .i64 n).wf = true) (y1 : len1 * 8 ≤ 140737488351232) :
    Calls Try.prog 9 #[.slice a0 len0 cap0, .slice a1 len1 cap1] w fun e w' => e = .returned (.bool true) ∧ Below w.heap.size w w' := by
  obtain ⟨l0, rfl, hr0, hm0, hw0, hc0⟩ := ReadsInt.ofRowC w0
  obtain ⟨l1, rfl, hr1, hm1, hw1, hc1⟩ := ReadsInt.ofRowC w1
  exact codesWrites_core a0 cap0 l0 a1 cap1 l1 w hr0 hc0 hm0 hr1 hc1 hm1
end Go.Proofs.Ytcphjcggnblnkaa.Hand
