/- The law's own 'trees': the page's example of layer 9, and what is nil. -/
import Derived.Test.YtcphjcggnblnkaaHand09n
import Derived.Test.YtcphjcggnblnkaaLem09
import Derived.Handy
namespace Go.Proofs.Ytcphjcggnblnkaa.Hand
open Go.RowKit Go.Proofs.YtcphjcggnblnkaaW.PrintWords Go.Proofs.YtcphjcggnblnkaaW.PrintLast Go.Proofs.YtcphjcggnblnkaaW.PrintMore Go.Proofs.Ytcphjcggnblnkaa.Num Go.Proofs.Ytcphjcggnblnkaa.Bits Go.Proofs.Ytcphjcggnblnkaa.P09r
set_option linter.unusedVariables false
set_option linter.unusedSimpArgs false
theorem ex_may : mayF [2, 1, 3, 3] = 0 := by decide +kernel
theorem ex_codes : codesF [2, 1, 3, 3] = [2, 0, 6, 7] := by decide +kernel
theorem ex_text : TextOf (revB 6 3) ⟨#[3]⟩ := ⟨by decide, by decide +kernel⟩
theorem ex_read : rdT ⟨#[3]⟩ (cntL [2, 1, 3, 3]) (symA [2, 1, 3, 3] 16) 3 16 1 0 0 0 0 = (2, 0, 3) := by decide +kernel
theorem lgA_nat (l : List Int) : ∃ g : Nat, lgA l 16 = (g : Int) ∧ g ≤ 15 := by
  have h : 0 ≤ lgA l 16 ∧ lgA l 16 ≤ 15 := lgA_le l 15
  obtain ⟨g, hg⟩ := Int.eq_ofNat_of_zero_le h.1
  exact ⟨g, hg, by omega⟩
/-- A tree of these lengths, in memory. -/
def Tr (w : World) (B tb : Nat) (l : List Int) : Prop := TreeAt w B tb l (codesF l) (cntL l) (symA l 16) (lgA l 16)
theorem kdC_reads {w : World} {A : Option Addr} {n : Nat} {xs : List Int} (h : ReadsInt w .i64 A n xs) : Kd.C (Kd.int .i64) w A n xs := Kd.C_of_reads (enc := Value.int .i64) (d := (0 : Int)) (h1 := fun _ => rfl) h
theorem reads_kdC {w : World} {A : Option Addr} {n : Nat} {xs : List Int} (h : Kd.C (Kd.int .i64) w A n xs) : ReadsInt w .i64 A n xs := Kd.reads_of_C (enc := Value.int .i64) (d := (0 : Int)) (h1 := fun _ => rfl) h
/-- Two rows that are the same. -/
theorem same_calls (w : World) (A1 A2 : Option Addr) (c1 c2 : Nat) (l : List Int) (h1 : ReadsInt w .i64 A1 l.length l) (h2 : ReadsInt w .i64 A2 l.length l) (hc1 : l.length ≤ c1) (hc2 : l.length ≤ c2) (hl : l.length ≤ 1000000) :
    Calls Try.prog 33 #[.slice A1 l.length c1, .slice A2 l.length c2] w fun e w' => e = .returned (.bool true) ∧ Drawn0 w w' := by
  obtain ⟨k, hk⟩ := (same_ev l hl).rounds
  exact binderyref03_Same.calls k A1 c1 l A2 c2 l true w (kdC_reads h1) hc1 (kdC_reads h2) hc2 hk
theorem reads_lit (W : World) (ys : List Int) (e : TypeId) (hl : ys.length ≤ 9223372036854775807) : ReadsInt (W.alloc (.cells (nums .i64 ys).toArray e)) .i64 (some ⟨W.heap.size, 0, none⟩) ys.length ys :=
  ⟨rfl, hl, fun _ => ⟨_, rfl, fun j hj => news_lit W .i64 ys _ e rfl j _ (by simp [nums, hj])⟩⟩
theorem TreeAt.below {w w1 : World} {B tb : Nat} {ls cs many syms : List Int} {lg : Int} (hT : TreeAt w B tb ls cs many syms lg) (hb : Below w.heap.size w w1) : TreeAt w1 B tb ls cs many syms lg := by
  obtain ⟨⟨vl, vc, vs, h, h1, h2, h3⟩, hm⟩ := hT
  exact ⟨⟨vl, vc, vs, blk_below h hb, h1.below hb, h2.below hb, h3.below hb⟩, hm⟩
theorem TreeAt.drawn {w w1 : World} {B tb : Nat} {ls cs many syms : List Int} {lg : Int} (hT : TreeAt w B tb ls cs many syms lg) (hd : Drawn0 w w1) : TreeAt w1 B tb ls cs many syms lg := by
  obtain ⟨n, rfl⟩ := hd.out; exact ⟨hT.open_, hT.ml⟩
theorem TreeAt.lower {w : World} {B B' tb : Nat} {ls cs many syms : List Int} {lg : Int} (hT : TreeAt w B tb ls cs many syms lg) (hb : B' ≤ B) : TreeAt w B' tb ls cs many syms lg := by
  obtain ⟨⟨vl, vc, vs, h, h1, h2, h3⟩, hm⟩ := hT
  exact ⟨⟨vl, vc, vs, h, h1.lower hb, h2.lower hb, h3.lower hb⟩, hm⟩
/-- A row of numbers outlasts a reader and a writer. -/
theorem Row.frW {w w1 : World} {B g : Nat} {v : Value} {xs : List Int} {post : List Value} {L : List Int} (h : Row w B 3 .i64 v xs) (hW : WrAt w B g 28 post L) (hf : Fr w w1 (SU B g w)) : Row w1 B 3 .i64 v xs := h.fr hf (row_su h hW)
theorem Row.frR {w w1 : World} {B g : Nat} {v : Value} {xs : List Int} {s : ByteArray} {p : Nat} (h : Row w B 3 .i64 v xs) (hR : RdAt w g s p) (hf : Fr w w1 (· = g)) : Row w1 B 3 .i64 v xs := h.fr hf (TreeAt.rowR h hR)
/-- A writer outlasts a reader, a reader a writer. -/
theorem WrAt.frR {w w1 : World} {B g g2 : Nat} {L : List Int} {s : ByteArray} {p : Nat} (hW : WrAt w B g 28 [] L) (hR : RdAt w g2 s p) (hf : Fr w w1 (· = g2)) : WrAt w1 B g 28 [] L := by
  refine hW.fr hf ?_ ?_
  · rintro rfl
    obtain ⟨x, m, v, xs, q1, _⟩ := hW.open_
    have q2 := hR.blk
    rw [q1] at q2
    injection q2 with q2
    injection q2 with _ q3
    exact absurd q3 (by decide)
  · rintro j ⟨cs, fr, hc⟩ rfl
    have q2 := hR.blk
    rw [hc] at q2
    injection q2 with q2
    injection q2 with _ q3
    exact absurd q3 (by decide)
theorem RdAt.frW {w w1 : World} {B g g2 : Nat} {L : List Int} {s : ByteArray} {p : Nat} (hR : RdAt w g2 s p) (hW : WrAt w B g 28 [] L) (hf : Fr w w1 (SU B g w)) : RdAt w1 g2 s p := by
  refine hR.fr hf ?_
  rintro (rfl | ⟨_, cs, fr, hc⟩)
  · obtain ⟨x, m, v, xs, q1, _⟩ := hW.open_
    have q2 := hR.blk
    rw [q1] at q2
    injection q2 with q2
    injection q2 with _ q3
    exact absurd q3 (by decide)
  · have q2 := hR.blk
    rw [hc] at q2
    injection q2 with q2
    injection q2 with _ q3
    exact absurd q3 (by decide)
theorem RdAt.below {w w1 : World} {g2 : Nat} {s : ByteArray} {p : Nat} (hR : RdAt w g2 s p) (hb : Below w.heap.size w w1) : RdAt w1 g2 s p := ⟨blk_below hR.blk hb, hR.le⟩
/-- What trees holds in its middle. -/
structure Mid (w W : World) (vl : Value) (tb g r : Nat) (L : List Int) (p : Nat) : Prop where
  row : Row W w.heap.size 3 .i64 vl [2, 0, 6, 7]
  tr : Tr W w.heap.size tb [2, 1, 3, 3]
  wr : WrAt W w.heap.size g 28 [] L
  rd : RdAt W r ⟨#[3]⟩ p
  below : Below w.heap.size w W
  gw : w.heap.size ≤ g
  gr : w.heap.size ≤ r
theorem Mid.below_ {w W W' : World} {vl : Value} {tb g r : Nat} {L : List Int} {p : Nat} (h : Mid w W vl tb g r L p) (hb : Below W.heap.size W W') : Mid w W' vl tb g r L p :=
  ⟨h.row.below hb, h.tr.below hb, h.wr.below hb, h.rd.below hb, h.below.trans (hb.mono h.below.size), h.gw, h.gr⟩
theorem Mid.drawn {w W W' : World} {vl : Value} {tb g r : Nat} {L : List Int} {p : Nat} (h : Mid w W vl tb g r L p) (hd : Drawn0 W W') : Mid w W' vl tb g r L p := by
  obtain ⟨n, rfl⟩ := hd.out
  exact ⟨h.row, h.tr.drawn ⟨n, rfl⟩, h.wr.drawn ⟨n, rfl⟩, h.rd.drawn ⟨n, rfl⟩, pw_below_drewN h.below n, h.gw, h.gr⟩
theorem Mid.wrote {w W W' : World} {vl : Value} {tb g r : Nat} {L L' : List Int} {p : Nat} (h : Mid w W vl tb g r L p) (k : WrAt W' w.heap.size g 28 [] L') (hf : Fr W W' (SU w.heap.size g W)) : Mid w W' vl tb g r L' p :=
  ⟨h.row.frW h.wr hf, h.tr.fr h.wr hf, k, h.rd.frW h.wr hf, h.below.trans (hf.suBelow h.gw (Nat.le_refl _) h.below.size), h.gw, h.gr⟩
theorem Mid.read {w W W' : World} {vl : Value} {tb g r : Nat} {L : List Int} {p p' : Nat} (h : Mid w W vl tb g r L p) (k : RdAt W' r ⟨#[3]⟩ p') (hf : Fr W W' (· = r)) : Mid w W' vl tb g r L p' :=
  ⟨h.row.frR h.rd hf, h.tr.frR h.rd hf, h.wr.frR h.rd hf, k, h.below.trans (hf.below (by rintro j rfl; exact h.gr) h.below.size), h.gw, h.gr⟩
set_option maxRecDepth 100000 in
set_option maxHeartbeats 4000000 in
theorem trees_true (w : World) : Calls Try.prog 27 #[] w fun e w' => e = .returned (.bool true) ∧ Below w.heap.size w w' := by
  have W1 := fun (W : World) (vl : Value) (tb g r : Nat) (h : Mid w W vl tb g r [] 0) => write_ok W w.heap.size tb g _ _ _ _ _ 2 3 [] h.tr h.wr h.below.size (by decide) (by decide +kernel) (by decide) (by decide) (by decide) (by decide +kernel) (by decide +kernel) (by decide)
  rw [ex_codes] at W1
  have R1 := fun (W : World) (vl : Value) (tb g r : Nat) (L : List Int) (h : Mid w W vl tb g r L 0) => read_calls W w.heap.size tb r _ _ _ _ 3 _ 0 h.tr h.rd (by decide) (by decide) (cntL_range _) (fun n hn => sumM_le (may_cnt ex_may) n (by omega)) (by decide +kernel)
  rw [ex_read] at R1
  have HW := Aside0.mk W1
  have HR := Aside0.mk R1
  clear W1 R1
  go_enter Try.func27, Try.ntmps27
  go_wp2_with fail
  have hL := reads_lit w [2, 1, 3, 3] 3 (by decide)
  refine (codes_calls (some ⟨w.heap.size, 0, none⟩) 4 [2, 1, 3, 3] _ hL (by decide)).mono ?_
  rintro e w1 ⟨v, rfl, hr1, hb1⟩
  rw [ex_may]
  rw [ex_codes] at hr1
  have hB := (below_alloc (Below.refl w.heap.size w) (.cells (nums .i64 [2, 1, 3, 3]).toArray 3))
  have H1 : Aside0 (Row w1 w.heap.size 3 .i64 v [2, 0, 6, 7] ∧ Below w.heap.size w w1) := ⟨hr1.lower (by simp), hB.trans (hb1.mono hB.size)⟩
  clear hL hr1 hb1 hB
  go_wp2_with fail
  have hL := reads_lit w1 [2, 1, 3, 3] 3 (by decide)
  refine (new_ok (some ⟨w1.heap.size, 0, none⟩) 4 [2, 1, 3, 3] _ hL (by decide) ex_may).mono ?_
  rintro e w2 ⟨tb, rfl, hr2, htb2, hb2⟩
  have hB := (below_alloc (Below.refl w1.heap.size w1) (.cells (nums .i64 [2, 1, 3, 3]).toArray 3))
  have hB2 : Below w1.heap.size w1 w2 := hB.trans (hb2.mono hB.size)
  have H2 : Aside0 (Row w2 w.heap.size 3 .i64 v [2, 0, 6, 7] ∧ Tr w2 w.heap.size tb [2, 1, 3, 3] ∧ Below w.heap.size w w2) := ⟨H1.out.1.below hB2, hr2.lower (by simp; have := H1.out.2.size; omega), H1.out.2.trans (hB2.mono H1.out.2.size)⟩
  clear hL hr2 hb2 hB hB2 H1
  go_wp2_with fail
  refine (rd_new _ _).mono ?_
  rintro e w3 ⟨rfl, h3, f3⟩
  have H3 : Aside0 (Row w3 w.heap.size 3 .i64 v [2, 0, 6, 7] ∧ Tr w3 w.heap.size tb [2, 1, 3, 3] ∧ Below w.heap.size w w3 ∧ RdAt w3 w2.heap.size ⟨#[3]⟩ 0 ∧ w.heap.size ≤ w2.heap.size) := ⟨H2.out.1.below f3, H2.out.2.1.below f3, H2.out.2.2.trans (f3.mono H2.out.2.2.size), h3, H2.out.2.2.size⟩
  clear h3 f3 H2
  generalize w2.heap.size = r at H3 ⊢
  go_wp2_with fail
  have M3 : Mid w (w3.alloc (.cells #[.int .i64 0, .int .i64 0, .slice none 0 0] 28)) v tb w3.heap.size r [] 0 :=
    ⟨H3.out.1.alloc _, H3.out.2.1.below (below_alloc (Below.refl _ _) _), WrAt.new w3 _, H3.out.2.2.2.1.below (below_alloc (Below.refl _ _) _), below_alloc H3.out.2.2.1 _, H3.out.2.2.1.size, H3.out.2.2.2.2⟩
  refine (HW.out _ _ _ _ _ M3).mono ?_
  rintro e w4 ⟨rfl, h4, f4⟩
  have M4 := Aside0.mk (M3.wrote h4 f4)
  clear M3 h4 f4 H3 HW
  generalize w3.heap.size = g at M4 ⊢
  go_wp2_with fail
  refine (HR.out _ _ _ _ _ _ M4.out).mono ?_
  rintro e w5 ⟨rfl, h5, f5⟩
  have M5 := Aside0.mk (M4.out.read h5 f5)
  clear M4 h5 f5 HR
  go_wp2_with fail
  refine (read_nil1 _ _).mono ?_
  rintro e w6 ⟨rfl, rfl⟩
  go_wp2_with fail
  refine (read_nil2 _ _).mono ?_
  rintro e w6 ⟨rfl, rfl⟩
  obtain ⟨A1, n1, c1, hv, hn1⟩ := M5.out.row.shape
  subst hv
  obtain rfl := hn1.out
  obtain ⟨_, hc1, hC1⟩ := Row.kdC M5.out.row
  have hb6 := below_alloc (Below.refl w5.heap.size w5) (.cells (nums .i64 [2, 0, 6, 7]).toArray 3)
  go_wp2_with fail
  refine (same_calls _ A1 _ c1 4 [2, 0, 6, 7] ((reads_kdC hC1).below hb6) (reads_lit w5 [2, 0, 6, 7] 3 (by decide)) hc1 (by decide) (by decide)).mono ?_
  rintro e w7 ⟨rfl, d7⟩
  have M7 := Aside0.mk ((M5.out.below_ hb6).drawn d7)
  clear M5 hb6 d7 hC1 hn1
  go_wp2_with fail
  refine (wr_text _ _ _ _ _ _ M7.out.wr (by decide)).mono ?_
  rintro e w8 ⟨s, rfl, hs, b8⟩
  obtain rfl := hs.uniq ex_text
  have M8 := Aside0.mk (M7.out.below_ b8)
  clear M7 b8 hs
  go_wp2_with fail
  refine (write_nil1 _ _ _).mono ?_
  rintro e w9 ⟨rfl, rfl⟩
  go_wp2_with fail
  refine (write_nil2 _ _ _).mono ?_
  rintro e w9 ⟨rfl, rfl⟩
  go_wp2_with fail
  refine (write_none w8 w.heap.size tb g _ _ _ _ _ 4 M8.out.tr (.inr (.inl (by decide)))).mono ?_
  rintro e w9 ⟨rfl, d9⟩
  have M9 := Aside0.mk (M8.out.drawn d9)
  clear M8 d9
  go_wp2_with fail
  refine (check_calls (some ⟨w9.heap.size, 0, none⟩) 3 3 [1, 1, 1] _ rfl (reads_lit w9 [1, 1, 1] 3 (by decide)) (by decide)).mono ?_
  rintro e w10 ⟨rfl, b10⟩
  rw [show chkF [1, 1, 1] = 7 by decide +kernel]
  have M10 := Aside0.mk ((M9.out.below_ (below_alloc (Below.refl w9.heap.size w9) _)).below_ b10)
  clear M9 b10
  go_wp2_with fail
  go_returns
  exact ⟨rfl, M10.out.below⟩
theorem refcodes_calls (A : Option Addr) (c : Nat) (l : List Int) (w : World) (hr : ReadsInt w .i64 A l.length l) (hc : l.length ≤ c) (hl : l.length ≤ 100000) :
    Calls Try.prog 29 #[.slice A l.length c] w fun e w' => ∃ v, e = .returned (.tuple #[v, .int .i64 (mayF l)]) ∧ Row w' w.heap.size 3 .i64 v (codesF l) ∧ Below w.heap.size w w' := by
  obtain ⟨k, hk⟩ := (refcodes_ev l hl).rounds
  exact (binderyref09_Codes.calls k A c l _ _ w (kdC_reads hr) hc hk).mono fun e w' ⟨v, h1, h2, h3⟩ => ⟨v, h1, Kd.own_of_R h2, h3⟩
theorem refcheck_calls (A : Option Addr) (c : Nat) (l : List Int) (w : World) (hr : ReadsInt w .i64 A l.length l) (hc : l.length ≤ c) :
    Calls Try.prog 32 #[.slice A l.length c] w fun e w' => e = .returned (.int .i64 (chkF l)) ∧ Drawn0 w w' := by
  obtain ⟨k, hk⟩ := (check_ev l).rounds
  exact binderyref09_Check.calls k A c l _ w (kdC_reads hr) hc hk
/-- What New answers: nil, or a tree. -/
theorem new_calls (A : Option Addr) (c : Nat) (l : List Int) (w : World) (hr : ReadsInt w .i64 A l.length l) (hc : l.length ≤ c) :
    Calls Try.prog 30 #[.slice A l.length c] w fun e w' => ∃ p, e = .returned (.tuple #[.pointer p, .int .i64 (mayF l)]) ∧ Below w.heap.size w w' ∧ ((mayF l ≠ 0 ∧ p = none) ∨ (mayF l = 0 ∧ ∃ tb, p = some ⟨tb, 0, none⟩ ∧ Tr w' w.heap.size tb l ∧ w.heap.size ≤ tb)) := by
  by_cases h : mayF l = 0
  · refine (new_ok A c l w hr hc h).mono fun e w' ⟨tb, h1, h2, h3, h4⟩ => ⟨_, by rw [h]; exact h1, h4, .inr ⟨h, tb, rfl, h2, h3⟩⟩
  · exact (new_bad A c l w hr hc h).mono fun e w' ⟨h1, h2⟩ => ⟨none, h1, h2, .inl ⟨h, rfl⟩⟩
theorem rdT_le (s : ByteArray) (many syms : List Int) (lg : Nat) : ∀ (d n : Nat) (code first at_ : Int) (p : Nat), p ≤ 8 * s.size → p ≤ (rdT s many syms lg d n code first at_ p).2.2 ∧ (rdT s many syms lg d n code first at_ p).2.2 ≤ 8 * s.size
  | 0, n, code, first, at_, p, h => by rw [rdT]; exact ⟨Nat.le_refl _, h⟩
  | d + 1, n, code, first, at_, p, h => by
    rw [rdT]
    split
    · split
      · split
        · have := rdT_le s many syms lg d (n + 1) (2 * code + val s p 1) (first * 2 + many.getD n 0) (at_ + many.getD n 0) (p + 1) (by omega)
          omega
        · dsimp only; omega
      · dsimp only; omega
    · dsimp only; omega
/-- What a tree reads, from a place on. -/
def rdS (s : ByteArray) (l : List Int) (p : Nat) : Int × Int × Nat := rdT s (cntL l) (symA l 16) (lgA l 16).toNat 16 1 0 0 0 p
theorem rdS_le (s : ByteArray) (l : List Int) (p : Nat) (h : p ≤ 8 * s.size) : (rdS s l p).2.2 ≤ 8 * s.size := (rdT_le s _ _ _ _ _ _ _ _ p h).2
theorem tread_calls (w : World) (B tb g : Nat) (l : List Int) (s : ByteArray) (p : Nat) (hm : mayF l = 0) (hT : Tr w B tb l) (hR : RdAt w g s p) (hs : s.size ≤ 1000000) :
    Calls Try.prog 35 #[.pointer (some ⟨tb, 0, none⟩), .pointer (some ⟨g, 0, none⟩)] w fun e w' =>
      e = .returned (.tuple #[.int .i64 (rdS s l p).1, .int .i64 (rdS s l p).2.1]) ∧ RdAt w' g s (rdS s l p).2.2 ∧ Fr w w' (· = g) := by
  obtain ⟨lg, hlg, h15⟩ := lgA_nat l
  have hl := (may_zero hm).1
  have hsy := symA_small l
  unfold Tr at hT
  rw [hlg] at hT
  unfold rdS
  rw [hlg, Int.toNat_natCast]
  exact read_calls w B tb g l (codesF l) (cntL l) (symA l 16) lg s p hT hR hs h15 (cntL_range l) (fun n hn => sumM_le (may_cnt hm) n (by omega)) (by omega)
end Go.Proofs.Ytcphjcggnblnkaa.Hand
