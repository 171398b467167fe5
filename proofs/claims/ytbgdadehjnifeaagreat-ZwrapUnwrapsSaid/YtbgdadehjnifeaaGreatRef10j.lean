/- The document's inflate: Inflate; walked by hand. -/
import Derived.Test.YtbgdadehjnifeaaGreatRef10i
import Derived.Test.YtbgdadehjnifeaaGreatRef10p
namespace Go.Proofs.YtbgdadehjnifeaaGreat.Hand
open Go.RowKit Go.Proofs.YtbgdadehjnifeaaGreatW.PrintWords Go.Proofs.YtbgdadehjnifeaaGreatW.PrintLast Go.Proofs.YtbgdadehjnifeaaGreatW.PrintMore Go.Proofs.YtbgdadehjnifeaaGreat.Num Go.Proofs.YtbgdadehjnifeaaGreat.Bits Go.Proofs.YtbgdadehjnifeaaGreat.P08 Go.Proofs.YtbgdadehjnifeaaGreat.P09r Go.Proofs.YtbgdadehjnifeaaGreat.P10n
set_option linter.unusedVariables false
set_option linter.unusedSimpArgs false
theorem rbitrow_calls (s : ByteArray) (w : World) (hs : s.size ≤ 1000000) :
  Calls Tryz.prog 26 #[.string s] w fun e w' => ∃ (A : Option Addr) (c : Nat), e = .returned (.slice A (flat (bytesOf s)).length c) ∧ RdI w' A c (flat (bytesOf s)) ∧ Below w.heap.size w w' := by
 obtain ⟨k, hk⟩ := (bits_ev s hs).rounds
 refine (binderyref09_Bits.calls k s _ w hk).mono fun e w' ⟨v, h1, h2, h3⟩ => ?_
 have h4 : Row w' w.heap.size 3 .i64 v (flat (bytesOf s)) := Kd.own_of_R h2
 obtain ⟨A, n, c, hv, hn⟩ := h4.shape
 subst hv
 have hn' := hn.out
 subst hn'
 exact ⟨A, c, h1, RdI.row h4, h3⟩
def RinOut (r : Nat × List Int × Int) : ByteArray × Int × Int := if r.2.2 ≠ 0 then (⟨#[]⟩, 0, r.2.2) else (strOfNums r.2.1, (rdAt r.1 : Int), 0)
theorem RinOut.bad {c : Int} (h : c ≠ 0) (p : Nat) (o : List Int) : RinOut (p, o, c) = (⟨#[]⟩, 0, c) := if_pos h
structure JAt (W1 W : World) (B x : Nat) (s : ByteArray) (Ab : Option Addr) (nf cb : Nat) (m : Int) (p : Nat) (c : Int) (A : Option Addr) (k : Nat) (o : List Int) : Prop where
 xb : W.heap[x]? = some (.cells #[.string s, .slice Ab nf cb, .int .i64 (p : Int), .slice A o.length k, .int .i64 m, .int .i64 c] 53 (0, 0))
 row : Row W B 5 .u8 (.slice A o.length k) o
 fr : Fr W1 W (SB B x W1)
section
variable {W1 W W' : World} {B x : Nat} {s : ByteArray} {Ab : Option Addr} {nf cb : Nat} {m : Int} {p : Nat} {c : Int} {A : Option Addr} {k : Nat} {o : List Int}
theorem JAt.next (h : JAt W1 W B x s Ab nf cb m p c A k o) (hb : Below W.heap.size W W') (p' : Nat) (c' : Int) : JAt W1 (W'.setRow x #[.string s, .slice Ab nf cb, .int .i64 (p' : Int), .slice A o.length k, .int .i64 m, .int .i64 c']) B x s Ab nf cb m p' c' A k o :=
 ⟨setRow_heap _ _ _ _ _ _ (blk_below h.xb hb), (h.row.below hb).put (blk_below h.xb hb) _, (h.fr.sbB hb).sbX (fr_setRow W' x _)⟩
theorem JAt.call (h : JAt W1 W B x s Ab nf cb m p c A k o) {A' : Option Addr} {k' : Nat} {o' : List Int} (hf : Fr W W' (S8 B W)) (hr : Row W' B 5 .u8 (.slice A' o'.length k') o') (p' : Nat) (c' : Int) : JAt W1 (W'.setRow x #[.string s, .slice Ab nf cb, .int .i64 (p' : Int), .slice A' o'.length k', .int .i64 m, .int .i64 c']) B x s Ab nf cb m p' c' A' k' o' :=
 have hx := s8_blk h.xb (by decide) hf
 ⟨setRow_heap _ _ _ _ _ _ hx, hr.put hx _, (h.fr.sbS hf).sbX (fr_setRow W' x _)⟩
theorem JAt.below (h : JAt W1 W B x s Ab nf cb m p c A k o) (hb : Below W.heap.size W W') : JAt W1 W' B x s Ab nf cb m p c A k o :=
 ⟨blk_below h.xb hb, h.row.below hb, h.fr.sbB hb⟩
theorem JAt.end_ {w : World} (h : JAt W1 W B x s Ab nf cb m p c A k o) (hw : Below B w W1) (hx : B ≤ x) (hB : B ≤ W1.heap.size) : Below B w W :=
 hw.trans (h.fr.below (fun k hk => by rcases hk with rfl | hk; exact hx; exact hk.1) hB)
end
set_option maxRecDepth 100000 in
set_option maxHeartbeats 4000000 in
theorem rinflate_calls (w : World) (s : ByteArray) (m : Int) (hs : s.size ≤ 1000000) (hm : m ≤ 10000000) :
  Calls Tryz.prog 11 #[.string s, .int .i64 m] w fun e w' => e = .returned (.tuple #[.string (rinflF s m).1, .int .i64 (rinflF s m).2.1, .int .i64 (rinflF s m).2.2]) ∧ Below w.heap.size w w' := by
 by_cases hm0 : m < 0
 ·have q1 : decide (m < 0) = true := decide_eq_true hm0
  have e1 : rinflF s m = (⟨#[]⟩, 0, 2) := if_pos hm0
  rw [e1]
  clear hm0 e1
  go_enter Tryz.func11, Tryz.ntmps11
  go_wp2_with fail
  go_returns
  exact ⟨rfl, Below.refl _ _⟩
 ·have q1 : decide (m < 0) = false := decide_eq_false hm0
  obtain ⟨K, hK⟩ : ∃ K, K = bigK := ⟨_, rfl⟩
  have hK1 : 8 * s.size < K := by rw [hK]; unfold bigK; omega
  obtain ⟨res, hres⟩ : ∃ res, res = rinfl s m K 0 [] := ⟨_, rfl⟩
  have e1 : rinflF s m = RinOut res := by unfold rinflF RinOut; rw [if_neg hm0, hres, hK]
  rw [e1]
  have HRES := Aside0.mk hres
  have hm1 : 0 ≤ m := by omega
  obtain ⟨B, hB⟩ : ∃ B, B = w.heap.size := ⟨_, rfl⟩
  obtain ⟨nf, hnf⟩ : ∃ n, n = (flat (bytesOf s)).length := ⟨_, rfl⟩
  have HNF := Aside0.mk hnf
  have HB := Aside0.mk hB
  have KBI := rbitrow_calls s w hs
  rw [← hnf, ← hB] at KBI
  rw [← hB]
  clear hK hres e1 hm0 hnf hB
  go_enter Tryz.func11, Tryz.ntmps11
  go_wp2_with fail
  refine KBI.mono ?_
  rintro e w1 ⟨Ab, cb, rfl, hr1, hb1⟩
  obtain ⟨x, hx⟩ : ∃ x, x = w1.heap.size := ⟨_, rfl⟩
  have hbx := below_alloc (Below.refl w1.heap.size w1) (.cells #[.string s, .slice Ab nf cb, .int .i64 (0 : Int), .slice none 0 0, .int .i64 m, .int .i64 0] 53)
  have hxw : B ≤ x := by rw [hx]; exact Nat.le_trans (Nat.le_of_eq HB.out) (by have := hb1.size; omega)
  go_upto_region 4 with fail
  have H1 : Aside0 ((w1.alloc (.cells #[.string s, .slice Ab nf cb, .int .i64 (0 : Int), .slice none 0 0, .int .i64 m, .int .i64 0] 53)).heap[x]? = some (.cells #[.string s, .slice Ab nf cb, .int .i64 (0 : Int), .slice none 0 0, .int .i64 m, .int .i64 0] 53 (0, 0)) ∧ RdI (w1.alloc (.cells #[.string s, .slice Ab nf cb, .int .i64 (0 : Int), .slice none 0 0, .int .i64 m, .int .i64 0] 53)) Ab cb (flat (bytesOf s)) ∧ Below B w (w1.alloc (.cells #[.string s, .slice Ab nf cb, .int .i64 (0 : Int), .slice none 0 0, .int .i64 m, .int .i64 0] 53))) :=
   ⟨by rw [hx]; exact heap_alloc_new w1 _, hr1.below hbx, hb1.trans (hbx.mono (by rw [← hx]; exact hxw))⟩
  rw [← hx]
  have HXW := Aside0.mk hxw
  clear hbx hb1 hr1 hx KBI hxw
  generalize World.alloc w1 _ = W1 at H1 ⊢
  have HB1 : Aside0 (B ≤ W1.heap.size) := ⟨by have h1 := H1.out.2.2.size; have h2 := HB.out; omega⟩
  go_wp2_with fail
  go_loopg [8] K (fun kq v8 wr => ∃ (p1 : Nat) (o1 : List Int) (c last : Int) (A7 : Option Addr) (k7 : Nat), v8 = .int .i64 last ∧ (c = 0 → last = 0 → 8 * s.size < p1 + kq) ∧ (c = 0 → p1 ≤ 8 * s.size ∧ (o1.length : Int) ≤ m) ∧ Aside0 (JAt W1 wr B x s Ab nf cb m p1 c A7 k7 o1) ∧ Aside0 (res = (if c = 0 ∧ last = 0 then rinfl s m kq p1 o1 else (p1, o1, c))))
  case atStart => exact ⟨0, [], 0, 0, none, 0, rfl, fun _ _ => by omega, fun _ => ⟨Nat.zero_le _, by simpa using hm1⟩, ⟨⟨H1.out.1, Row.nil _ _ _ _, Fr.refl _ _⟩⟩, ⟨by rw [if_pos ⟨rfl, rfl⟩]; exact HRES.out⟩⟩
  case round =>
   clear HRES
   obtain ⟨p1, o1, c, last, A7, k7, rfl, hk, hol1, HW, HWR⟩ := hrel
   have xw := HW.out.xb
   have d5 : wr.cell? ⟨x, 5, none⟩ = some (.int .i64 c) := blk_cell xw 5
   by_cases hc : c = 0
   ·subst hc
    have q5 : ((0 : Int) == 0) = true := rfl
    by_cases hl : last = 0
    ·subst hl
     cases gk with
     | zero => exact absurd (hk rfl rfl) (by omega)
     | succ k1 =>
      have hrec := HWR.out
      rw [if_pos ⟨rfl, rfl⟩, rinfl] at hrec
      dsimp only at hrec
      obtain ⟨hp1, hol⟩ := hol1 rfl
      have hkk : 8 * s.size < p1 + (k1 + 1) := hk rfl rfl
      have hRD : Aside0 (∀ W, Fr W1 W (SB B x W1) → RdI W Ab cb (flat (bytesOf s))) := ⟨fun W h => H1.out.2.1.sb H1.out.1 h⟩
      have g1 := rbits_range s p1 0 1 hp1
      have KB1 := Aside0.mk (rbits_calls wr s Ab A7 nf cb o1.length k7 p1 1 m 0 hs hp1 (by omega))
      have ge1 : (rbits s p1 0 1).2.1 = 0 → (rbits s p1 0 1).1 = p1 + 1 := fun h => by
       unfold rbits at h ⊢
       rw [if_pos rfl] at h ⊢
       split at h
       ·rename_i h9; rw [if_pos h9]
       ·cases h
      obtain ⟨⟨p2, c2, last⟩, hr1⟩ : ∃ r, r = rbits s p1 0 1 := ⟨_, rfl⟩
      rw [← hr1] at g1 KB1 hrec ge1
      dsimp only at g1 KB1 hrec ge1
      have g2 := rbits_range s p2 c2 2 g1.1
      have KB2 := Aside0.mk (fun W => rbits_calls W s Ab A7 nf cb o1.length k7 p2 2 m c2 hs g1.1 (by omega))
      have ge2 : (rbits s p2 c2 2).2.1 = 0 → c2 = 0 := fun h => by
       unfold rbits at h
       by_cases h9 : c2 = 0
       ·exact h9
       ·rw [if_neg h9] at h; exact h
      obtain ⟨⟨p3, c3, kind⟩, hr2⟩ : ∃ r, r = rbits s p2 c2 2 := ⟨_, rfl⟩
      rw [← hr2] at g2 KB2 hrec ge2
      dsimp only at g2 KB2 hrec ge2
      simp only [Int.reducePow] at g1 g2
      obtain ⟨c4, hc4⟩ : ∃ c, c = rfail c3 (kind == 3) 4 := ⟨_, rfl⟩
      have KF := Aside0.mk (fun W => rfail_calls W s Ab A7 nf cb o1.length k7 p3 m c3 4 (kind == 3))
      rw [← hc4] at KF hrec
      have HC4 := Aside0.mk hc4
      have HREC := Aside0.mk hrec
      have HGE := Aside0.mk (And.intro ge1 ge2)
      clear hr1 hr2 hrec hc4 ge1 ge2 hk hol1 HWR
      go_upto_region 7 with fail
      go_wp2_with (refine wpList_load_row rfl 53 _ rfl x rfl 53 _ (0, 0) _ xw Tryz.underlying53 rfl infoState ?_)
      refine KB1.out.mono ?_
      rintro e W3 ⟨rfl, hb3⟩
      have x3 := blk_below xw hb3
      have HX3 := Aside0.mk (HW.out.next hb3 p2 c2)
      clear KB1 hb3 HW xw d5
      go_upto_region 8 with (first | (refine wpList_store_rowTo rfl 53 _ _ rfl rfl x #[.string s, .slice Ab nf cb, .int .i64 (p2 : Int), .slice A7 o1.length k7, .int .i64 m, .int .i64 c2] rfl rfl 53 _ x3 infoState rfl (st_one _ _ _ _ _ _ _ _ _ _) ?_))
      generalize World.setRow W3 x _ = W4 at HX3 ⊢
      clear x3
      have x4 := HX3.out.xb
      go_wp2_with (refine wpList_load_row rfl 53 _ rfl x rfl 53 _ (0, 0) _ x4 Tryz.underlying53 rfl infoState ?_)
      refine (KB2.out _).mono ?_
      rintro e W5 ⟨rfl, hb5⟩
      have x5 := blk_below x4 hb5
      have HX5 := Aside0.mk (HX3.out.next hb5 p3 c3)
      clear KB2 hb5 HX3 x4
      go_upto_region 9 with (first | (refine wpList_store_rowTo rfl 53 _ _ rfl rfl x #[.string s, .slice Ab nf cb, .int .i64 (p3 : Int), .slice A7 o1.length k7, .int .i64 m, .int .i64 c3] rfl rfl 53 _ x5 infoState rfl (st_one _ _ _ _ _ _ _ _ _ _) ?_))
      generalize World.setRow W5 x _ = W6 at HX5 ⊢
      clear x5
      have x6 := HX5.out.xb
      go_wp2_with (refine wpList_load_row rfl 53 _ rfl x rfl 53 _ (0, 0) _ x6 Tryz.underlying53 rfl infoState ?_)
      refine (KF.out _).mono ?_
      rintro e W7 ⟨rfl, hb7⟩
      have x7 := blk_below x6 hb7
      have HX7 := Aside0.mk (HX5.out.next hb7 p3 c4)
      clear KF hb7 HX5 x6
      go_upto_region 10 with (first | (refine wpList_store_rowTo rfl 53 _ _ rfl rfl x #[.string s, .slice Ab nf cb, .int .i64 (p3 : Int), .slice A7 o1.length k7, .int .i64 m, .int .i64 c4] rfl rfl 53 _ x7 infoState rfl (st_one _ _ _ _ _ _ _ _ _ _) ?_))
      generalize World.setRow W7 x _ = W8 at HX7 ⊢
      clear x7
      have x8 := HX7.out.xb
      have d8 : W8.cell? ⟨x, 5, none⟩ = some (.int .i64 c4) := blk_cell x8 5
      have HBE := Aside0.mk (HX7.out.end_ H1.out.2.2 HXW.out HB1.out)
      by_cases h4 : c4 = 0
      ·subst h4
       have q4 : ((0 : Int) != 0) = false := rfl
       have hcc : c3 = 0 ∧ kind ≠ 3 := by
        have h := HC4.out
        unfold rfail at h
        split at h
        ·cases h
        ·rename_i hn
         refine ⟨h.symm, fun h9 => hn ⟨beq_iff_eq.2 h9, h.symm⟩⟩
       have hc2 := HGE.out.2 hcc.1
       have hp2 := HGE.out.1 hc2
       have hrec := HREC.out
       rw [if_neg (by simp)] at hrec
       have hk02 : 0 ≤ kind ∧ kind ≤ 2 := by have := hcc.2; omega
       have hR := rkind_range s m kind hk02 p3 o1 g2.1 hol
       have hbits := hRD.out W8 HX7.out.fr
       have hB8 : B ≤ W8.heap.size := by have h1 := HBE.out.size; have h2 := HB.out; omega
       obtain ⟨⟨q9, o9, c9⟩, hr9⟩ : ∃ r, r = rkind s m kind p3 o1 := ⟨_, rfl⟩
       rw [← hr9] at hR hrec
       dsimp only at hR hrec
       have HREC2 : Aside0 (res = if c9 = 0 ∧ last = 0 then rinfl s m k1 q9 o9 else (q9, o9, c9)) := ⟨by
        by_cases h1 : c9 = 0
        ·rw [if_neg (show ¬ c9 ≠ 0 from fun h => h h1)] at hrec
         by_cases h2 : last = 0
         ·rw [if_pos h2] at hrec; rw [if_pos ⟨h1, h2⟩]; exact hrec
         ·rw [if_neg h2] at hrec; rw [if_neg (fun h => h2 h.2)]; exact hrec
        ·rw [if_pos h1] at hrec; rw [if_neg (fun h => h1 h.1)]; exact hrec⟩
       have HR := Aside0.mk hR
       have hg3 : p1 + 1 ≤ p3 := by have := g2.2.1; omega
       have hg31 := g2.1
       clear HREC hrec HC4 HGE hcc hc2 hp2 g1 g2 hR
       by_cases h0 : kind = 0
       ·subst h0
        have KC := rstored_calls W8 B s Ab A7 cb k7 p3 o1 m hs hg31 HX7.out.row hB8 hol hm
        unfold ROut at KC
        rw [← HNF.out, show rstored s m p3 o1 = (q9, o9, c9) from hr9.symm] at KC
        dsimp only at KC
        have HKC := Aside0.mk KC
        clear KC hr9
        clear hbits
        go_wp2_with (refine wpList_load_row rfl 53 _ rfl x rfl 53 _ (0, 0) _ x8 Tryz.underlying53 rfl infoState ?_)
        refine HKC.out.mono ?_
        rintro e W9 ⟨A9, k9, rfl, hr, hf⟩
        have x9 := s8_blk x8 (by decide) hf
        have HX9 := Aside0.mk (HX7.out.call hf hr q9 c9)
        clear HKC hr hf
        go_wp2_with (refine wpList_store_rowTo rfl 53 _ _ rfl rfl x #[.string s, .slice Ab nf cb, .int .i64 (q9 : Int), .slice A9 o9.length k9, .int .i64 m, .int .i64 c9] rfl rfl 53 _ x9 infoState rfl (st_one _ _ _ _ _ _ _ _ _ _) ?_)
        go_roundg k1
        case measure => omega
        case rel => exact ⟨q9, o9, c9, last, A9, k9, rfl, fun h _ => by have := HR.out h; omega, fun h => ⟨(HR.out h).2.1, (HR.out h).2.2⟩, ⟨HX9.out⟩, ⟨HREC2.out⟩⟩
       ·by_cases h1 : kind = 1
        ·subst h1
         have KX := Aside0.mk (rfixed_calls W8)
         have hr10 : (q9, o9, c9) = rcoded s m fixLit fixDist bigK p3 o1 := hr9
         have HR9 := Aside0.mk hr10
         have HBT := Aside0.mk hbits
         clear hr9 hr10 hbits
         go_wp2_with fail
         refine KX.out.mono ?_
         rintro e WF ⟨A1, A2, c1, c2, rfl, hl1, hl2, hbF⟩
         have HXF := Aside0.mk (HX7.out.below hbF)
         have xF := HXF.out.xb
         have KC := rcoded_calls WF B s Ab A7 A1 A2 cb k7 c1 c2 fixLit fixDist p3 o1 m hs hg31 fix_may fix_may2 (HBT.out.below hbF) hl1 hl2 HXF.out.row (Nat.le_trans hB8 hbF.size) hol hm bigK (by unfold bigK; omega)
         unfold ROut at KC
         rw [← HNF.out, ← HR9.out] at KC
         dsimp only at KC
         have HKC := Aside0.mk KC
         clear KC KX hl1 hl2 hbF x8 HBT HR9
         go_wp2_with (refine wpList_load_row rfl 53 _ rfl x rfl 53 _ (0, 0) _ xF Tryz.underlying53 rfl infoState ?_)
         refine HKC.out.mono ?_
         rintro e W9 ⟨A9, k9, rfl, hr, hf⟩
         have x9 := s8_blk xF (by decide) hf
         have HX9 := Aside0.mk (HXF.out.call hf hr q9 c9)
         clear HKC hr hf
         go_wp2_with (refine wpList_store_rowTo rfl 53 _ _ rfl rfl x #[.string s, .slice Ab nf cb, .int .i64 (q9 : Int), .slice A9 o9.length k9, .int .i64 m, .int .i64 c9] rfl rfl 53 _ x9 infoState rfl (st_one _ _ _ _ _ _ _ _ _ _) ?_)
         go_roundg k1
         case measure => omega
         case rel => exact ⟨q9, o9, c9, last, A9, k9, rfl, fun h _ => by have := HR.out h; omega, fun h => ⟨(HR.out h).2.1, (HR.out h).2.2⟩, ⟨HX9.out⟩, ⟨HREC2.out⟩⟩
        ·have hk2 : kind = 2 := by omega
         subst hk2
         have KC := rown_calls W8 B s Ab A7 cb k7 p3 o1 m hs hg31 hbits HX7.out.row hB8 hol hm
         unfold ROut at KC
         rw [← HNF.out, show rown s m p3 o1 = (q9, o9, c9) from hr9.symm] at KC
         dsimp only at KC
         have HKC := Aside0.mk KC
         clear KC hr9
         clear hbits
         go_wp2_with (refine wpList_load_row rfl 53 _ rfl x rfl 53 _ (0, 0) _ x8 Tryz.underlying53 rfl infoState ?_)
         refine HKC.out.mono ?_
         rintro e W9 ⟨A9, k9, rfl, hr, hf⟩
         have x9 := s8_blk x8 (by decide) hf
         have HX9 := Aside0.mk (HX7.out.call hf hr q9 c9)
         clear HKC hr hf
         go_wp2_with (refine wpList_store_rowTo rfl 53 _ _ rfl rfl x #[.string s, .slice Ab nf cb, .int .i64 (q9 : Int), .slice A9 o9.length k9, .int .i64 m, .int .i64 c9] rfl rfl 53 _ x9 infoState rfl (st_one _ _ _ _ _ _ _ _ _ _) ?_)
         go_roundg k1
         case measure => omega
         case rel => exact ⟨q9, o9, c9, last, A9, k9, rfl, fun h _ => by have := HR.out h; omega, fun h => ⟨(HR.out h).2.1, (HR.out h).2.2⟩, ⟨HX9.out⟩, ⟨HREC2.out⟩⟩
      ·have q4 : (c4 != 0) = true := bne_iff_ne.2 h4
       have hrec := HREC.out
       rw [if_pos h4] at hrec
       subst hrec
       clear HREC hRD HC4 HGE
       go_wp2_with fail
       go_quiet (fail)
       go_wp2_with fail
       go_returns
       exact ⟨by rw [RinOut.bad h4]; rfl, pw_below_drewN HBE.out _⟩
    ·have q6 : (last == 0) = false := beq_false_of_ne hl
     have hrec := HWR.out
     rw [if_neg (fun h => hl h.2)] at hrec
     subst hrec
     have hp1 := (hol1 rfl).1
     have HBE := Aside0.mk (HW.out.end_ H1.out.2.2 HXW.out HB1.out)
     have c2 : wr.cell? ⟨x, 2, none⟩ = some (.int .i64 (p1 : Int)) := blk_cell xw 2
     have c3 : wr.cell? ⟨x, 3, none⟩ = some (.slice A7 o1.length k7) := blk_cell xw 3
     have q0 : ((0 : Int) != 0) = false := rfl
     have HS := Aside0.mk (fun (W : World) (h : Drawn0 wr W) => (show Row W B 5 .u8 (.slice A7 o1.length k7) o1 by obtain ⟨n, rfl⟩ := h.out; exact HW.out.row).str (P := Tryz.prog) (src := 44) (dst := 9) Tryz.underlying44 Tryz.underlying5 Tryz.underlying9)
     have KA := Aside0.mk (fun (W : World) => binderyref08_Whole.calls (p1 : Int) _ W (whole_f p1 (by omega)))
     have hrd : rdAt p1 ≤ 8000000 := by unfold rdAt; omega
     obtain ⟨st, hst⟩ : ∃ st, st = strOfNums o1 := ⟨_, rfl⟩
     rw [← hst] at HS
     have HST := Aside0.mk hst
     obtain ⟨n8, hn8⟩ : ∃ n, n = 8 * rdAt p1 := ⟨_, rfl⟩
     rw [← hn8] at KA
     have e1 : Int.tdiv (n8 : Int) 8 = ((rdAt p1 : Nat) : Int) := by rw [td _ (by omega), hn8]; omega
     have hn8' : n8 ≤ 64000000 := by omega
     have HN8 := Aside0.mk hn8
     have k0 := HS.out wr.drew ⟨1, rfl⟩
     have HD : Aside0 (∀ W, Drawn0 wr.drew W → Drawn0 wr W) := ⟨fun W h => by obtain ⟨n, rfl⟩ := h.out; exact Drawn0.step (w' := wr.drewN 1) ⟨⟨1, rfl⟩⟩ n⟩
     clear hk hol1 HWR HW hst hn8 e1
     go_wp2_with fail
     go_region_held3 (fun w' => w'.cell? ⟨x, 2, none⟩ = some (.int .i64 (p1 : Int)) ∧ w'.cell? ⟨x, 3, none⟩ = some (.slice A7 o1.length k7) ∧ (convert 44 9 (.slice A7 o1.length k7)).run Tryz.prog w' = .ok (.string st) w') (first | exact ⟨c2, c3, k0⟩ | exact ⟨e2, e3, e4⟩) ((go_at_call 33; refine (KA.out _).mono ?_; rintro e w3 ⟨rfl, hd3⟩; have hd4 : Drawn0 wr w3 := HD.out _ hd3; have e2 : w3.cell? ⟨x, 2, none⟩ = some (.int .i64 (p1 : Int)) := (by obtain ⟨n, rfl⟩ := hd4.out; exact c2); have e3 : w3.cell? ⟨x, 3, none⟩ = some (.slice A7 o1.length k7) := (by obtain ⟨n, rfl⟩ := hd4.out; exact c3); have e4 := HS.out w3 hd4))
     go_wp2_with fail
     go_returns
     have hw : IntKind.i64.wrap ((n8 : Int) / 8) = ((rdAt p1 : Nat) : Int) := by
      have h9 := HN8.out
      rw [IntWalk.i64_in _ (by omega)]; omega
     have hB3 : Below B w w3 := by obtain ⟨n, rfl⟩ := hd4.out; exact pw_below_drewN HBE.out n
     refine ⟨?_, hB3⟩
     have hr : RinOut (p1, o1, 0) = (st, ((rdAt p1 : Nat) : Int), 0) := by unfold RinOut; rw [if_neg z0, HST.out]
     rw [hr, ← hw]
     rfl
   ·have q5 : (c == 0) = false := beq_false_of_ne hc
    have q5' : (c != 0) = true := bne_iff_ne.2 hc
    have hrec := HWR.out
    rw [if_neg (fun h => hc h.1)] at hrec
    subst hrec
    have HBE := Aside0.mk (HW.out.end_ H1.out.2.2 HXW.out HB1.out)
    clear hk hol1 HWR HW
    by_cases hl : last = 0
    ·subst hl
     go_wp2_with fail
     go_quiet (fail)
     go_wp2_with fail
     go_returns
     exact ⟨by rw [RinOut.bad hc]; rfl, pw_below_drewN HBE.out _⟩
    ·have q6 : (last == 0) = false := beq_false_of_ne hl
     go_wp2_with fail
     go_quiet (fail)
     go_wp2_with fail
     go_returns
     exact ⟨by rw [RinOut.bad hc]; rfl, pw_below_drewN HBE.out _⟩
def binderyref10_Inflate.f (a0 : ByteArray) (a1 : Int) : Option (ByteArray × Int × Int) := if a0.size ≤ 1000000 ∧ a1 ≤ 10000000 then some (inflF a0 a1) else none
theorem binderyref10_Inflate.calls (a0 : ByteArray) (a1 : Int) (r1 : ByteArray) (r2 : Int) (r3 : Int) (w : World) (h : binderyref10_Inflate.f a0 a1 = some (r1, r2, r3)) :
  Calls Tryz.prog 11 #[.string a0, .int .i64 a1] w fun e w' => e = .returned (.tuple #[.string r1, .int .i64 r2, .int .i64 r3]) ∧ Below w.heap.size w w' := by
 unfold binderyref10_Inflate.f at h
 split at h
 ·rename_i hc
  injection h with h
  have hh := rinflate_calls w a0 a1 hc.1 hc.2
  rw [rinfl_eq, h] at hh
  exact hh
 ·cases h
end Go.Proofs.YtbgdadehjnifeaaGreat.Hand
