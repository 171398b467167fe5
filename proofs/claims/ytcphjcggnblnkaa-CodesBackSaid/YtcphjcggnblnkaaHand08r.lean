/- The law's own 'rows': the page's example of layer 8, and what is nil. -/
import Derived.Test.YtcphjcggnblnkaaHand08w
namespace Go.Proofs.Ytcphjcggnblnkaa.Hand
open Go.RowKit Go.Proofs.YtcphjcggnblnkaaW.PrintWords Go.Proofs.YtcphjcggnblnkaaW.PrintLast Go.Proofs.YtcphjcggnblnkaaW.PrintMore Go.Proofs.Ytcphjcggnblnkaa.Num Go.Proofs.Ytcphjcggnblnkaa.Bits
set_option linter.unusedVariables false
set_option linter.unusedSimpArgs false

theorem WrAt.new (w : World) (B : Nat) : WrAt (w.alloc (.cells #[.int .i64 0, .int .i64 0, .slice none 0 0] 28)) B w.heap.size 28 [] [] :=
  ⟨0, 0, _, [], blk_new w _, Row.nil _ _ _ _, Held.nil⟩
theorem row1 : TextOf (bitsN 5 3 ++ bitsN 1 1 ++ bitsN 255 8) ⟨#[253, 15]⟩ := ⟨by decide, by decide +kernel⟩
theorem row2 : val ⟨#[253, 15]⟩ 0 3 = 5 := by decide +kernel
/-- What two things of a call's own leave. -/
def Both (w w' : World) (B g g2 : Nat) (L : List Int) (s : ByteArray) (p : Nat) : Prop := WrAt w' B g 28 [] L ∧ RdAt w' g2 s p ∧ Below B w w'
theorem Both.wr {w w1 w2 : World} {B g g2 : Nat} {L L' : List Int} {s : ByteArray} {p : Nat} (h : Both w w1 B g g2 L s p) (hb : B ≤ g) (hw : B ≤ w.heap.size) (k : WrAt w2 B g 28 [] L') (f : Fr w1 w2 (SU B g w1)) : Both w w2 B g g2 L' s p := by
  obtain ⟨h1, h2, h3⟩ := h
  refine ⟨k, h2.fr f ?_, h3.trans (f.suBelow hb (Nat.le_refl _) (Nat.le_trans hw h3.size))⟩
  rintro (rfl | ⟨_, cs, fr, hc⟩)
  · obtain ⟨x, m, v, xs, q1, _⟩ := h1.open_
    have q2 := h2.blk
    rw [q1] at q2
    injection q2 with q2
    injection q2 with _ q3
    exact absurd q3 (by decide)
  · have q2 := h2.blk
    rw [hc] at q2
    injection q2 with q2
    injection q2 with _ q3
    exact absurd q3 (by decide)
theorem Both.rd {w w1 w2 : World} {B g g2 : Nat} {L : List Int} {s : ByteArray} {p p' : Nat} (h : Both w w1 B g g2 L s p) (hb : B ≤ g2) (hw : B ≤ w.heap.size) (k : RdAt w2 g2 s p') (f : Fr w1 w2 (· = g2)) : Both w w2 B g g2 L s p' := by
  obtain ⟨h1, h2, h3⟩ := h
  refine ⟨h1.fr f ?_ ?_, k, h3.trans (f.below (by rintro j rfl; exact hb) (Nat.le_trans hw h3.size))⟩
  · rintro rfl
    obtain ⟨x, m, v, xs, q1, _⟩ := h1.open_
    have q2 := h2.blk
    rw [q1] at q2
    injection q2 with q2
    injection q2 with _ q3
    exact absurd q3 (by decide)
  · rintro j ⟨cs, fr, hc⟩ rfl
    have q2 := h2.blk
    rw [hc] at q2
    injection q2 with q2
    injection q2 with _ q3
    exact absurd q3 (by decide)
theorem Both.drawn {w w1 w2 : World} {B g g2 : Nat} {L : List Int} {s : ByteArray} {p : Nat} (h : Both w w1 B g g2 L s p) (hd : Drawn0 w1 w2) : Both w w2 B g g2 L s p := by
  obtain ⟨n, rfl⟩ := hd.out
  exact ⟨h.1.drawn ⟨n, rfl⟩, h.2.1.drawn ⟨n, rfl⟩, pw_below_drewN h.2.2 n⟩
theorem Both.below {w w1 w2 : World} {B g g2 : Nat} {L : List Int} {s : ByteArray} {p : Nat} (h : Both w w1 B g g2 L s p) (hw : B ≤ w.heap.size) (hd : Below w1.heap.size w1 w2) : Both w w2 B g g2 L s p :=
  ⟨h.1.below hd, ⟨blk_below h.2.1.blk hd, h.2.1.le⟩, h.2.2.trans (hd.mono (Nat.le_trans hw h.2.2.size))⟩

set_option maxRecDepth 100000 in
set_option maxHeartbeats 4000000 in
theorem rows_true (w : World) : Calls Try.prog 11 #[] w fun e w' => e = .returned (.bool true) ∧ Below w.heap.size w w' := by
  have P1 : ∀ W, WrAt W w.heap.size w.heap.size 28 [] [] → w.heap.size ≤ W.heap.size → Calls Try.prog 15 #[.pointer (some ⟨w.heap.size, 0, none⟩), .int .i64 5, .int .i64 3] W fun e w' => e = .returned (.int .i64 0) ∧ WrAt w' w.heap.size w.heap.size 28 [] (bitsN 5 3) ∧ Fr W w' (SU w.heap.size w.heap.size W) :=
    fun W h hB => wr_put W _ _ _ _ _ 5 3 h (by decide) (by decide) (by decide) (by decide) (by decide) hB
  have P2 : ∀ W, WrAt W w.heap.size w.heap.size 28 [] (bitsN 5 3) → w.heap.size ≤ W.heap.size → Calls Try.prog 15 #[.pointer (some ⟨w.heap.size, 0, none⟩), .int .i64 1, .int .i64 1] W fun e w' => e = .returned (.int .i64 0) ∧ WrAt w' w.heap.size w.heap.size 28 [] (bitsN 5 3 ++ bitsN 1 1) ∧ Fr W w' (SU w.heap.size w.heap.size W) :=
    fun W h hB => wr_put W _ _ _ _ _ 1 1 h (by decide) (by decide) (by decide) (by decide) (by decide) hB
  have P3 : ∀ W, WrAt W w.heap.size w.heap.size 28 [] (bitsN 5 3 ++ bitsN 1 1) → w.heap.size ≤ W.heap.size → Calls Try.prog 15 #[.pointer (some ⟨w.heap.size, 0, none⟩), .int .i64 255, .int .i64 8] W fun e w' => e = .returned (.int .i64 0) ∧ WrAt w' w.heap.size w.heap.size 28 [] (bitsN 5 3 ++ bitsN 1 1 ++ bitsN 255 8) ∧ Fr W w' (SU w.heap.size w.heap.size W) :=
    fun W h hB => wr_put W _ _ _ _ _ 255 8 h (by decide) (by decide) (by decide) (by decide) (by decide) hB
  have P4 : ∀ W, Calls Try.prog 15 #[.pointer (some ⟨w.heap.size, 0, none⟩), .int .i64 2, .int .i64 1] W fun e w' => e = .returned (.int .i64 3) ∧ W = w' := fun W => wr_put_range W _ 2 1 (by decide) (.inr (by decide)) (by decide)
  have G1 : ∀ W g, RdAt W g ⟨#[253, 15]⟩ 0 → Calls Try.prog 21 #[.pointer (some ⟨g, 0, none⟩), .int .i64 3] W fun e w' => e = .returned (.tuple #[.int .i64 5, .int .i64 0]) ∧ RdAt w' g ⟨#[253, 15]⟩ 3 ∧ Fr W w' (· = g) :=
    fun W g h => by
      have := rd_get W g ⟨#[253, 15]⟩ 0 3 h (by decide) (by decide) (by decide)
      rw [row2] at this
      exact this
  have G2 : ∀ W g, RdAt W g ⟨#[253, 15]⟩ 3 → Calls Try.prog 23 #[.pointer (some ⟨g, 0, none⟩), .int .i64 1] W fun e w' => e = .returned (.tuple #[.string ⟨#[15]⟩, .int .i64 0]) ∧ RdAt w' g ⟨#[253, 15]⟩ 16 ∧ Fr W w' (· = g) :=
    fun W g h => rd_bytes W g ⟨#[253, 15]⟩ 3 1 h (by decide) (by decide)
  have G3 : ∀ W g, RdAt W g ⟨#[253, 15]⟩ 16 → Calls Try.prog 26 #[.pointer (some ⟨g, 0, none⟩)] W fun e w' => e = .returned (.int .i64 16) ∧ Drawn0 W w' :=
    fun W g h => rd_at W g ⟨#[253, 15]⟩ 16 h (by decide)
  have HP : Aside0 (_ ∧ _ ∧ _ ∧ _) := ⟨P1, P2, P3, P4⟩
  have HG : Aside0 (_ ∧ _ ∧ _) := ⟨G1, G2, G3⟩
  have hn := WrAt.new w w.heap.size
  have HN := Aside0.mk hn
  clear P1 P2 P3 P4 G1 G2 G3 hn
  go_enter Try.func11, Try.ntmps11
  go_wp2_with fail
  refine (HP.out.1 _ HN.out (by simp)).mono ?_
  rintro e w1 ⟨rfl, h1, f1⟩
  have hb1 : Below w.heap.size w w1 := (below_alloc (Below.refl _ _) _).trans (f1.suBelow (Nat.le_refl _) (Nat.le_refl _) (by simp))
  have H1 : Aside0 (_ ∧ _) := ⟨h1, hb1⟩
  clear h1 f1 hb1 HN
  go_wp2_with fail
  refine (HP.out.2.1 _ H1.out.1 H1.out.2.size).mono ?_
  rintro e w2 ⟨rfl, h2, f2⟩
  have H2 : Aside0 (_ ∧ _) := ⟨h2, H1.out.2.trans (f2.suBelow (Nat.le_refl _) (Nat.le_refl _) H1.out.2.size)⟩
  clear h2 f2 H1
  go_wp2_with fail
  refine (HP.out.2.2.1 _ H2.out.1 H2.out.2.size).mono ?_
  rintro e w3 ⟨rfl, h3, f3⟩
  have H3 : Aside0 (_ ∧ _) := ⟨h3, H2.out.2.trans (f3.suBelow (Nat.le_refl _) (Nat.le_refl _) H2.out.2.size)⟩
  clear h3 f3 H2
  go_wp2_with fail
  refine (HP.out.2.2.2 _).mono ?_
  rintro e w3' ⟨rfl, rfl⟩
  clear HP
  go_wp2_with fail
  refine (rd_new _ _).mono ?_
  rintro e w4 ⟨rfl, h4, f4⟩
  have H4 : Aside0 (Both w w4 w.heap.size w.heap.size w3.heap.size (bitsN 5 3 ++ bitsN 1 1 ++ bitsN 255 8) ⟨#[253, 15]⟩ 0 ∧ w.heap.size ≤ w3.heap.size) := ⟨⟨H3.out.1.below f4, h4, H3.out.2.trans (f4.mono H3.out.2.size)⟩, H3.out.2.size⟩
  clear h4 f4 H3
  generalize w3.heap.size = g2 at H4 ⊢
  clear w3
  go_wp2_with fail
  refine (HG.out.1 _ _ H4.out.1.2.1).mono ?_
  rintro e w5 ⟨rfl, h5, f5⟩
  have H5 : Aside0 (_ ∧ _) := ⟨H4.out.1.rd H4.out.2 (Nat.le_refl _) h5 f5, H4.out.2⟩
  clear h5 f5 H4
  go_wp2_with fail
  refine (HG.out.2.1 _ _ H5.out.1.2.1).mono ?_
  rintro e w6 ⟨rfl, h6, f6⟩
  have H6 : Aside0 (_ ∧ _) := ⟨H5.out.1.rd H5.out.2 (Nat.le_refl _) h6 f6, H5.out.2⟩
  clear h6 f6 H5
  go_wp2_with fail
  refine (rd_get_nil _ _).mono ?_
  rintro e w7 ⟨rfl, d7⟩
  have H7 : Aside0 (_ ∧ _) := ⟨H6.out.1.drawn d7, H6.out.2⟩
  clear d7 H6
  go_wp2_with fail
  refine (rd_bytes_nil _ _).mono ?_
  rintro e w8 ⟨rfl, d8⟩
  have H8 : Aside0 (_ ∧ _) := ⟨H7.out.1.drawn d8, H7.out.2⟩
  clear d8 H7
  go_wp2_with fail
  refine (rd_align_nil _).mono ?_
  rintro e w8' ⟨rfl, rfl⟩
  go_wp2_with fail
  refine (wr_align_nil _).mono ?_
  rintro e w8' ⟨rfl, rfl⟩
  go_wp2_with fail
  refine (wr_text _ _ _ _ _ _ H8.out.1.1 (by decide)).mono ?_
  rintro e w9 ⟨s9, rfl, t9, f9⟩
  obtain rfl : s9 = ⟨#[253, 15]⟩ := t9.uniq row1
  have H9 : Aside0 (_ ∧ _) := ⟨H8.out.1.below (Nat.le_refl _) f9, H8.out.2⟩
  clear t9 f9 H8
  go_wp2_with fail
  refine (wr_len _ _ _ _ _ _ H9.out.1.1 (by decide)).mono ?_
  rintro e w10 ⟨rfl, d10⟩
  have H10 : Aside0 (_ ∧ _) := ⟨H9.out.1.drawn d10, H9.out.2⟩
  clear d10 H9
  have e12 : ((bitsN 5 3 ++ bitsN 1 1 ++ bitsN 255 8).length : Int) = 12 := by decide
  rw [e12]
  clear e12
  go_wp2_with fail
  refine (HG.out.2.2 _ _ H10.out.1.2.1).mono ?_
  rintro e w11 ⟨rfl, d11⟩
  have H11 : Aside0 (_ ∧ _) := ⟨H10.out.1.drawn d11, H10.out.2⟩
  clear d11 H10 HG
  go_wp2_with fail
  refine (wr_put_nil _ _ _).mono ?_
  rintro e w8' ⟨rfl, rfl⟩
  go_wp2_with fail
  refine (wr_len_nil _).mono ?_
  rintro e w8' ⟨rfl, rfl⟩
  go_wp2_with fail
  refine (rd_at_nil _).mono ?_
  rintro e w8' ⟨rfl, rfl⟩
  go_wp2_with fail
  refine (wr_text_nil _).mono ?_
  rintro e w8' ⟨rfl, rfl⟩
  go_wp2_with fail
  go_returns
  exact ⟨rfl, H11.out.1.2.2⟩
end Go.Proofs.Ytcphjcggnblnkaa.Hand
