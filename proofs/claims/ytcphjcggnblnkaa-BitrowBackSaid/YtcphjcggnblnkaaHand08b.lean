/- binderylaw08.BitrowWrites answers true: walked by hand over the contracts of layer 8. -/
import Derived.Test.YtcphjcggnblnkaaLem08b
import Derived.Test.YtcphjcggnblnkaaRowS
namespace Go.Proofs.Ytcphjcggnblnkaa.Hand
open Go.RowKit Go.Proofs.YtcphjcggnblnkaaW.PrintWords Go.Proofs.YtcphjcggnblnkaaW.PrintLast Go.Proofs.YtcphjcggnblnkaaW.PrintMore Go.Proofs.Ytcphjcggnblnkaa.Num Go.Proofs.Ytcphjcggnblnkaa.Bits Go.Proofs.Ytcphjcggnblnkaa.P08
set_option linter.unusedVariables false
set_option linter.unusedSimpArgs false

/-- A slice of acts that came in. -/
structure Acts (w : World) (A : Option Addr) (n : Nat) (zs : List (Int × Int × Bool)) : Prop where
  len : zs.length = n
  at_ : ∀ i, i < n → ∃ ad, A = some ad ∧ w.cell? (ad.add (i * 3)) = some (.int .i64 (zs.getD i (0, 0, false)).1) ∧ w.cell? ⟨(ad.add (i * 3)).block, (ad.add (i * 3)).off + 1, none⟩ = some (.int .i64 (zs.getD i (0, 0, false)).2.1) ∧
    w.cell? ⟨(ad.add (i * 3)).block, (ad.add (i * 3)).off + 2, none⟩ = some (.bool (zs.getD i (0, 0, false)).2.2) ∧ (Lit.int .i64 (zs.getD i (0, 0, false)).1).wf = true ∧ (Lit.int .i64 (zs.getD i (0, 0, false)).2.1).wf = true
/-- What the law holds in a round: its writer, its row, and what was there. -/
structure Two (w wr : World) (g : Nat) (v : Value) (L : List Int) : Prop where
  wr_ : WrAt wr w.heap.size g 28 [] L
  row : Row wr w.heap.size 3 .i64 v L
  below : Below w.heap.size w wr
  ge : w.heap.size ≤ g
theorem Two.apart {w wr : World} {g : Nat} {v : Value} {L L' : List Int} {v' : Value} (h : WrAt wr w.heap.size g 28 [] L) (hr : Row wr w.heap.size 3 .i64 v' L') : ∀ k, v'.ownBlock = some k → ¬ SU w.heap.size g wr k := by
  intro k hk hs
  rcases hs with rfl | ⟨_, cs, fr, hc⟩
  · obtain ⟨x, m, u, xs, q1, _⟩ := h.open_
    exact hr.ne_blk q1 (by decide) k hk rfl
  · exact hr.ne_blk hc (by decide) k hk rfl
theorem Two.put {w wr w2 : World} {g : Nat} {v : Value} {L L2 : List Int} (h : Two w wr g v L) (k : WrAt w2 w.heap.size g 28 [] L2) (f : Fr wr w2 (SU w.heap.size g wr)) : Row w2 w.heap.size 3 .i64 v L ∧ Below w.heap.size w w2 :=
  ⟨h.row.fr f (Two.apart (v := v) h.wr_ h.row), h.below.trans (f.suBelow h.ge (Nat.le_refl _) h.below.size)⟩
theorem Two.drawn {w wr w2 : World} {g : Nat} {v : Value} {L : List Int} (h : Two w wr g v L) (hd : Drawn0 wr w2) : Two w w2 g v L := by
  obtain ⟨n, rfl⟩ := hd.out
  exact ⟨h.wr_.drawn ⟨n, rfl⟩, h.row, pw_below_drewN h.below n, h.ge⟩
theorem Two.later {w wr w2 : World} {g : Nat} {v : Value} {L : List Int} (h : Two w wr g v L) (hb : Below wr.heap.size wr w2) : Two w w2 g v L :=
  ⟨h.wr_.below hb, h.row.below hb, h.below.trans (hb.mono h.below.size), h.ge⟩
set_option maxRecDepth 100000 in
set_option maxHeartbeats 4000000 in
theorem bitrowWrites_walk (A : Option Addr) (n c : Nat) (zs : List (Int × Int × Bool)) (w : World) (hz : Acts w A n zs) :
    Calls Try.prog 3 #[.slice A n c] w fun e w' => e = .returned (.bool true) ∧ Below w.heap.size w w' := by
  by_cases h2 : 100 < n
  · have q2 : decide ((100 : Int) < (n : Int)) = true := decide_eq_true (by omega)
    go_enter Try.func3, Try.ntmps3
    go_wp2_with (go_at_call 11; (with_reducible refine (rows_true _).mono ?_); rintro e w1 ⟨rfl, hb1⟩)
    go_returns
    exact ⟨rfl, hb1⟩
  · have q2 : decide ((100 : Int) < (n : Int)) = false := decide_eq_false (by omega)
    have HZ := Aside0.mk hz
    have hn : n ≤ 100 := by omega
    have h0 : Two w ((w.alloc (.cells #[.int .i64 0, .int .i64 0, .slice none 0 0] 28)).alloc (.cells #[] 3)) w.heap.size (.slice (some ⟨w.heap.size + 1, 0, none⟩) 0 0) [] :=
      ⟨(WrAt.new w w.heap.size).below (below_alloc (Below.refl _ _) _), by have := Row.empty (w.alloc (.cells #[.int .i64 0, .int .i64 0, .slice none 0 0] 28)) w.heap.size 3 .i64 (by simp); simpa using this, below_alloc (below_alloc (Below.refl _ _) _) _, Nat.le_refl _⟩
    have H0 := Aside0.mk h0
    clear hz h2 h0
    go_enter Try.func3, Try.ntmps3
    go_wp2
    obtain ⟨g, hg⟩ : ∃ g, g = w.heap.size := ⟨_, rfl⟩
    go_loopw [4, 5] (fun v4 v5 wr => ∃ (v : Value) (i : Nat) (L : List Int), v = v4 ∧ i ≤ n ∧ v5 = .int .i64 i ∧ L.length ≤ 24 * i ∧ Aside0 (Two w wr w.heap.size v L)) (fun _ v5 _ => n - (intOf v5).toNat)
    case atStart => exact ⟨_, 0, [], rfl, by omega, rfl, by simp, H0⟩
    case round =>
      clear H0
      obtain ⟨v, i, L, rfl, hi, rfl, hL, HT⟩ := hrel
      by_cases hlt : i < n
      · have q3 : decide ((i : Int) < (n : Int)) = true := decide_eq_true (by omega)
        have q3n : decide (i < n) = true := decide_eq_true hlt
        obtain ⟨ad, ha, hc0, hc1, hc2, hw0, hw1⟩ := HZ.out.at_ i hlt
        cases ha
        obtain ⟨N, hN⟩ : ∃ N : Int, N = (zs.getD i (0, 0, false)).1 := ⟨_, rfl⟩
        obtain ⟨k, hk⟩ : ∃ k : Int, k = (zs.getD i (0, 0, false)).2.1 := ⟨_, rfl⟩
        obtain ⟨b, hbb⟩ : ∃ b : Bool, b = (zs.getD i (0, 0, false)).2.2 := ⟨_, rfl⟩
        rw [← hN] at hc0 hw0
        rw [← hk] at hc1 hw1
        rw [← hbb] at hc2
        have D := fun (W : World) (hb : Below w.heap.size w W) => (⟨(hb.cell (World.block_lt_of_cell? w _ hc0)).trans hc0, (hb.cell (World.block_lt_of_cell? w _ hc1)).trans hc1⟩ : W.cell? (ad.add (i * 3)) = some (.int .i64 N) ∧ W.cell? ⟨(ad.add (i * 3)).block, (ad.add (i * 3)).off + 1, none⟩ = some (.int .i64 k))
        have DD := Aside0.mk D
        have d2 : wr.cell? ⟨(ad.add (i * 3)).block, (ad.add (i * 3)).off + 2, none⟩ = some (.bool b) := (HT.out.below.cell (World.block_lt_of_cell? w _ hc2)).trans hc2
        have HW0 := Aside0.mk hw0
        clear hN hk hbb hc0 hc1 hc2 hw0 hw1 D
        cases b with
        | true =>
          obtain ⟨kA, hA⟩ := (align_f L (by omega)).rounds
          have HA := Aside0.mk hA
          clear hA
          obtain ⟨A1, m1, c1, hv, hm⟩ := HT.out.row.shape
          subst hv
          obtain rfl := hm.out
          have hkd := Row.kdC HT.out.row
          have HKD := Aside0.mk hkd.2
          clear hkd hm
          go_wp2_with fail
          refine (wr_align _ _ _ _ _ _ HT.out.wr_ (by decide) (by omega) HT.out.below.size).mono ?_
          rintro e w1 ⟨rfl, h1, f1⟩
          have H1 : Aside0 (_ ∧ _ ∧ _) := ⟨h1, HT.out.put h1 f1, Row.kdC (HT.out.put h1 f1).1⟩
          clear h1 f1 HKD
          go_wp2_with fail
          refine (binderyref08_Align.calls kA _ _ L _ _ H1.out.2.2.2.2 H1.out.2.2.2.1 HA.out).mono ?_
          rintro e w2 ⟨v2, rfl, hr2, hb2⟩
          have HT2 : Aside0 (Two w w2 w.heap.size v2 (alignL L)) := ⟨⟨H1.out.1.below hb2, (show Row w2 w1.heap.size 3 .i64 v2 (alignL L) from Kd.own_of_R hr2).lower H1.out.2.1.2.size, H1.out.2.1.2.trans (hb2.mono H1.out.2.1.2.size), Nat.le_refl _⟩⟩
          have hL2 : (alignL L).length ≤ 24 * (i + 1) := by unfold alignL; rw [List.length_append, List.length_replicate]; omega
          clear hr2 hb2 H1 HT HA DD d2 HW0
          generalize alignL L = L2 at HT2 hL2
          obtain ⟨kT, sT, hT, hTx⟩ : ∃ (kT : Nat) (sT : ByteArray), binderyref08_Text.f kT L2 = some sT ∧ TextOf L2 sT := by
            obtain ⟨x, m, u, xs, _, _, hh⟩ := HT2.out.wr_.open_
            obtain ⟨kT, hT⟩ := text_f hh (by omega)
            exact ⟨kT, _, hT, hh.text⟩
          have HX : Aside0 (_ ∧ _) := ⟨hT, hTx⟩
          clear hT hTx
          obtain ⟨A2, m2, c2, hv2, hm2⟩ := HT2.out.row.shape
          subst hv2
          obtain rfl := hm2.out
          clear hm2
          go_wp2_with fail
          refine (wr_len _ _ _ _ _ _ HT2.out.wr_ (by omega)).mono ?_
          rintro e w3 ⟨rfl, d3⟩
          have HT3 := Aside0.mk (HT2.out.drawn d3)
          clear d3 HT2
          go_wp2_with fail
          refine (wr_text _ _ _ _ _ _ HT3.out.wr_ (by omega)).mono ?_
          rintro e w4 ⟨s4, rfl, t4, b4⟩
          obtain rfl : s4 = sT := t4.uniq HX.out.2
          have HT4 := Aside0.mk (HT3.out.later b4)
          clear t4 b4 HT3
          go_wp2_with fail
          refine (binderyref08_Text.calls kT _ _ L2 _ _ (Row.kdC HT4.out.row).2.2 (Row.kdC HT4.out.row).2.1 HX.out.1).mono ?_
          rintro e w5 ⟨rfl, b5⟩
          have HT5 := Aside0.mk (HT4.out.later b5)
          clear b5 HT4 HX
          go_wp2_with fail
          go_roundw
          case rel => exact ⟨_, i + 1, L2, rfl, by omega, by go_num, hL2, HT5⟩
          case measure => simp [intOf]; omega
        | false =>
          obtain ⟨A1, m1, c1, hv, hm⟩ := HT.out.row.shape
          subst hv
          obtain rfl := hm.out
          have HKD := Aside0.mk (Row.kdC HT.out.row).2
          clear hm
          obtain ⟨d0, d1⟩ := DD.out wr HT.out.below
          go_wp2_with fail
          have hBd := HT.out.below
          go_region_held3 (fun w' => w'.cell? (ad.add (i * 3)) = some (.int .i64 N) ∧ w'.cell? ⟨(ad.add (i * 3)).block, (ad.add (i * 3)).off + 1, none⟩ = some (.int .i64 k)) (first | exact ⟨d0, d1⟩ | exact DD.out _ hbw2) ((go_at_call 14; refine (refput_any _ w.heap.size A1 c1 L N k (Row.drew HT.out.row) hBd.size (by omega)).mono ?_; rintro e w2 ⟨A2, c2, rfl, hr2, hb2⟩; have hbw2 : Below w.heap.size w w2 := hBd.drew.trans (hb2.mono (Nat.le_trans hBd.size (Nat.le_refl _)))))
          have hb1 : Below wr.heap.size wr w2 := (below_drew (Below.refl _ _)).trans hb2
          have H1 : Aside0 (WrAt w2 w.heap.size w.heap.size 28 [] L ∧ Row w2 w.heap.size 3 .i64 (.slice A2 (putL L N k).length c2) (putL L N k) ∧ Below w.heap.size w w2) := ⟨HT.out.wr_.below hb1, hr2, hbw2⟩
          have hL2 : (putL L N k).length ≤ 24 * (i + 1) := by have := putL_length L N k; omega
          obtain ⟨d0, d1⟩ := DD.out w2 hbw2
          have WP := Aside0.mk (wrput_any w2.drew w.heap.size w.heap.size 28 [] L N k (H1.out.1.drawn ⟨1, rfl⟩) (by decide) HW0.out (by omega) H1.out.2.2.size)
          have HAp := Aside0.mk (Two.apart (v := .slice none 0 0) (w := w) (g := w.heap.size) (H1.out.1.drawn ⟨1, rfl⟩ : WrAt w2.drew _ _ _ _ _) (Row.drew H1.out.2.1))
          obtain ⟨L2, hLL⟩ : ∃ L2, L2 = putL L N k := ⟨_, rfl⟩
          obtain ⟨e2, hee⟩ : ∃ e2, e2 = putE N k := ⟨_, rfl⟩
          rw [← hLL] at H1 hL2 WP HAp ⊢
          rw [← hee] at WP ⊢
          clear hr2 hb2 hb1 HT HKD hLL hee hBd d2 HW0
          go_wp2_with fail
          go_region_held3 (fun w' => w'.cell? (ad.add (i * 3)) = some (.int .i64 N) ∧ w'.cell? ⟨(ad.add (i * 3)).block, (ad.add (i * 3)).off + 1, none⟩ = some (.int .i64 k)) (first | exact ⟨d0, d1⟩ | exact DD.out _ hbw3) ((go_at_call 15; refine WP.out.mono ?_; rintro e w3 ⟨rfl, h3, f3⟩; have hbw3 : Below w.heap.size w w3 := hbw2.drew.trans (f3.suBelow (Nat.le_refl _) (Nat.le_refl _) hbw2.size)))
          have HT2 : Aside0 (Two w w3 w.heap.size (.slice A2 L2.length c2) L2) := ⟨⟨h3, (Row.drew H1.out.2.1).fr f3 HAp.out, hbw3, Nat.le_refl _⟩⟩
          clear h3 f3 hbw3 HAp WP H1 d0 d1 hbw2 DD
          obtain ⟨kT, sT, hT, hTx⟩ : ∃ (kT : Nat) (sT : ByteArray), binderyref08_Text.f kT L2 = some sT ∧ TextOf L2 sT := by
            obtain ⟨x, m, u, xs, _, _, hh⟩ := HT2.out.wr_.open_
            obtain ⟨kT, hT⟩ := text_f hh (by omega)
            exact ⟨kT, _, hT, hh.text⟩
          have HX : Aside0 (_ ∧ _) := ⟨hT, hTx⟩
          clear hT hTx
          go_wp2_with fail
          refine (wr_len _ _ _ _ _ _ HT2.out.wr_ (by omega)).mono ?_
          rintro e w3 ⟨rfl, d3⟩
          have HT3 := Aside0.mk (HT2.out.drawn d3)
          clear d3 HT2
          go_wp2_with fail
          refine (wr_text _ _ _ _ _ _ HT3.out.wr_ (by omega)).mono ?_
          rintro e w4 ⟨s4, rfl, t4, b4⟩
          obtain rfl : s4 = sT := t4.uniq HX.out.2
          have HT4 := Aside0.mk (HT3.out.later b4)
          clear t4 b4 HT3
          go_wp2_with fail
          refine (binderyref08_Text.calls kT _ _ L2 _ _ (Row.kdC HT4.out.row).2.2 (Row.kdC HT4.out.row).2.1 HX.out.1).mono ?_
          rintro e w5 ⟨rfl, b5⟩
          have HT5 := Aside0.mk (HT4.out.later b5)
          clear b5 HT4 HX
          go_wp2_with fail
          go_roundw
          case rel => exact ⟨_, i + 1, L2, rfl, by omega, by go_num, hL2, HT5⟩
          case measure => simp [intOf]; omega
      · have q3 : decide ((i : Int) < (n : Int)) = false := decide_eq_false (by omega)
        have q3n : decide (i < n) = false := decide_eq_false hlt
        go_wp2_with fail
        refine (rows_true _).mono ?_
        rintro e2 w2 ⟨rfl, hb2⟩
        go_wp2_with fail
        go_returns
        exact ⟨rfl, HT.out.below.trans (hb2.mono HT.out.below.size)⟩
end Go.Proofs.Ytcphjcggnblnkaa.Hand
