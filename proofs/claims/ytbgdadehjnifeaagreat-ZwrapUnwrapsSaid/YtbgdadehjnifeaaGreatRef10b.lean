/- The document's inflate: copied; walked by hand. -/
import Derived.Test.YtbgdadehjnifeaaGreatRef10
import Derived.Deep.DrawnRows
namespace Go.Proofs.YtbgdadehjnifeaaGreat.Hand
open Go.RowKit Go.Proofs.YtbgdadehjnifeaaGreatW.PrintWords Go.Proofs.YtbgdadehjnifeaaGreatW.PrintLast Go.Proofs.YtbgdadehjnifeaaGreatW.PrintMore Go.Proofs.YtbgdadehjnifeaaGreat.Num Go.Proofs.YtbgdadehjnifeaaGreat.Bits Go.Proofs.YtbgdadehjnifeaaGreat.P08 Go.Proofs.YtbgdadehjnifeaaGreat.P09r Go.Proofs.YtbgdadehjnifeaaGreat.P10n
set_option linter.unusedVariables false
set_option linter.unusedSimpArgs false
attribute [local go_sem ↓] Go.wp_at_zero Go.wp_at_succ
set_option maxRecDepth 100000 in
set_option maxHeartbeats 4000000 in
theorem rcopied_calls (w : World) (B : Nat) (s : ByteArray) (Ab Ao Al Ac : Option Addr) (cb co cl cc : Nat) (l : List Int) (p k : Nat) (o : List Int) (m : Int) (hs : s.size ≤ 1000000) (hp : p ≤ 8 * s.size) (hm : mayF l = 0) (hb : RdI w Ab cb (flat (bytesOf s))) (hl : RdI w Al cl l) (hc : RdI w Ac cc (codesF l))
  (ho : Row w B 5 .u8 (.slice Ao o.length co) o) (hB : B ≤ w.heap.size) (hk : k < 29) (hol : (o.length : Int) ≤ m) (hm0 : m ≤ 10000000) :
  Calls Tryz.prog 48 #[.agg #[.string s, .slice Ab (flat (bytesOf s)).length cb, .int .i64 (p : Int), .slice Ao o.length co, .int .i64 m, .int .i64 0], .int .i64 (k : Int), .slice Al l.length cl, .slice Ac (codesF l).length cc] w fun e w' =>
   ROut B w s Ab cb m (rcopied s m p o k l) e w' := by
 obtain ⟨res, hres⟩ : ∃ res, res = rcopied s m p o k l := ⟨_, rfl⟩
 rw [← hres]
 unfold rcopied at hres
 have HRES := Aside0.mk hres
 have HR : Aside0 (∀ W, Fr w W (S8 B w) → RdI W Ab cb (flat (bytesOf s)) ∧ RdI W Al cl l ∧ RdI W Ac cc (codesF l)) := ⟨fun W hf => ⟨hb.s8 hf, hl.s8 hf, hc.s8 hf⟩⟩
 have HO0 : Aside0 (_ ∧ _) := ⟨ho, hm⟩
 have HX0 := Aside0.mk (Bx.new w N0 #[.string s, .slice Ab (flat (bytesOf s)).length cb, .int .i64 (p : Int), .slice Ao o.length co, .int .i64 m, .int .i64 0])
 obtain ⟨ls1, ls2, ls3⟩ := lens_small k hk
 have KE := Aside0.mk (fun W => binderyref10_Extra.calls (k : Int) 8 4 _ W (extra_f (k : Int) 8 4 (by omega) (by omega) (by omega)))
 have KL := Aside0.mk (fun W => binderyref10_Length.calls 60 (k : Int) _ W (lens_least k hk))
 have HEX : Aside0 (k ≠ 28 → extraF k 8 4 = ((lensT.getD k (0, 0)).2 : Int)) := ⟨fun h => lens_extra k (by omega)⟩
 have HE28 : Aside0 (k = 28 → (lensT.getD k (0, 0)).2 = 0) := ⟨fun h => by subst h; rfl⟩
 obtain ⟨nf, hnf⟩ : ∃ n, n = (flat (bytesOf s)).length := ⟨_, rfl⟩
 have HNF := Aside0.mk hnf
 rw [← hnf] at HX0 ⊢
 unfold ROut
 rw [← hnf]
 obtain ⟨e1, he1⟩ : ∃ e, e = extraF k 8 4 := ⟨_, rfl⟩
 rw [← he1] at KE HEX
 obtain ⟨tw, htw⟩ : ∃ t, t = (lensT.getD k (0, 0)).2 := ⟨_, rfl⟩
 obtain ⟨tl, htl⟩ : ∃ t, t = (lensT.getD k (0, 0)).1 := ⟨_, rfl⟩
 rw [← htw] at HRES HEX HE28 ls1
 rw [← htl] at HRES KL ls2 ls3
 clear hres hb hl hc ho hm hnf he1 htw htl
 go_enter Tryz.func48, Tryz.ntmps48
 go_wp2_with fail
 refine (KE.out _).mono ?_
 rintro e W1 ⟨rfl, hd1⟩
 have HX1 := HX0.out.drawn hd1
 obtain ⟨x, hx⟩ : ∃ x, x = w.heap.size := ⟨_, rfl⟩
 obtain ⟨z, hz⟩ : ∃ z, z = w.heap.size + 1 := ⟨_, rfl⟩
 rw [← hz, ← hx] at HX1 ⊢
 have HX := Aside0.mk HX1
 clear HX0 HX1 hd1 hx hz KE
 go_upto_if 18 with fail
 go_cut [9] (fun v9 wc => v9 = .int .i64 (tw : Int) ∧ wc = W1)
 case first =>
  by_cases h28 : k = 28
  ·have q1 : ((k : Int) == 28) = true := by simp [h28]
   have h0 := Aside0.mk (HE28.out h28)
   go_wp2_with fail
   go_meet
   exact ⟨by rw [h0.out]; rfl, rfl⟩
  ·have q1 : ((k : Int) == 28) = false := by simp; omega
   have h0 := Aside0.mk (HEX.out h28)
   go_wp2_with fail
   go_meet
   exact ⟨by rw [h0.out], rfl⟩
 case rest =>
  obtain ⟨rfl, rfl⟩ := hcut
  clear HEX HE28
  obtain ⟨r1, hr1⟩ : ∃ r, r = rbits s p 0 tw := ⟨_, rfl⟩
  obtain ⟨r2, hr2⟩ : ∃ r, r = rsym s r1.1 r1.2.1 l := ⟨_, rfl⟩
  have g1 := rbits_range s p 0 tw hp
  have g2 := rsym_range s r1.1 r1.2.1 l
  rw [← hr1] at g1 HRES
  rw [← hr2] at g2 HRES
  have KB := Aside0.mk (fun W => rbits_calls W s Ab Ao nf cb o.length co p tw m 0 hs hp (by omega))
  rw [← hr1] at KB
  have KS := Aside0.mk (fun W hf => by have h := HR.out W hf; have h2 := rsymbol_calls W s Ab Ao Al Ac cb o.length co cl cc l r1.1 m r1.2.1 hs g1.1 HO0.out.2 h.1 h.2.1 h.2.2; rw [← HNF.out, ← hr2] at h2; exact h2)
  clear hr1 hr2
  have x0 := HX.out.xb
  go_wp2_with (first | (refine wpList_load_row rfl 53 _ rfl x rfl 53 _ (0, 0) _ x0 Tryz.underlying53 rfl infoState ?_))
  refine (KB.out _).mono ?_
  rintro e W2 ⟨rfl, hb2⟩
  have hx2 := HX.out.below hb2
  have x2 := hx2.xb
  have HX2 := Aside0.mk (hx2.put #[.string s, .slice Ab nf cb, .int .i64 (r1.1 : Int), .slice Ao o.length co, .int .i64 m, .int .i64 r1.2.1])
  clear KB hb2 HX x0 hx2
  go_wp2_with (refine wpList_store_rowTo rfl 53 _ _ rfl rfl x #[.string s, .slice Ab nf cb, .int .i64 (r1.1 : Int), .slice Ao o.length co, .int .i64 m, .int .i64 r1.2.1] rfl rfl 53 _ x2 infoState rfl (st_one _ _ _ _ _ _ _ _ _ _) ?_)
  refine (KL.out _).mono ?_
  rintro e W3 ⟨rfl, hd3⟩
  have hx3 := HX2.out.drawn hd3
  have x3 := hx3.xb
  have HX3 := Aside0.mk hx3
  clear KL hd3 HX2 x2 hx3
  have hpow : (2 : Int) ^ tw ≤ 2 ^ 5 := pow_le2 ls1
  go_wp2_with (refine wpList_load_row rfl 53 _ rfl x rfl 53 _ (0, 0) _ x3 Tryz.underlying53 rfl infoState ?_)
  refine (KS.out _ HX3.out.n0).mono ?_
  rintro e W4 ⟨rfl, hb4⟩
  have hx4 := HX3.out.below hb4
  have x4 := hx4.xb
  have HX4 := Aside0.mk (hx4.put #[.string s, .slice Ab nf cb, .int .i64 (r2.1 : Int), .slice Ao o.length co, .int .i64 m, .int .i64 r2.2.1])
  have y4 := HX4.out.xb
  clear KS hb4 HX3 x3 hx4
  go_wp2_with (first | (refine wpList_store_rowTo rfl 53 _ _ rfl rfl x #[.string s, .slice Ab nf cb, .int .i64 (r2.1 : Int), .slice Ao o.length co, .int .i64 m, .int .i64 r2.2.1] rfl rfl 53 _ x4 infoState rfl (st_one _ _ _ _ _ _ _ _ _ _) ?_) | (refine wpList_load_row rfl 53 _ rfl x rfl 53 _ (0, 0) _ y4 Tryz.underlying53 rfl infoState ?_))
  obtain ⟨c2, hc2⟩ : ∃ c, c = rfail r2.2.1 (decide (29 < r2.2.2)) 4 := ⟨_, rfl⟩
  have KF := Aside0.mk (fun W => rfail_calls W s Ab Ao nf cb o.length co r2.1 m r2.2.1 4 (decide (29 < r2.2.2)))
  rw [← hc2] at KF HRES
  have HC2 := Aside0.mk hc2
  clear hc2
  refine (KF.out _).mono ?_
  rintro e W5 ⟨rfl, hb5⟩
  have hx5 := HX4.out.below hb5
  have x5 := hx5.xb
  have HX5 := Aside0.mk (hx5.put #[.string s, .slice Ab nf cb, .int .i64 (r2.1 : Int), .slice Ao o.length co, .int .i64 m, .int .i64 c2])
  have y5 := HX5.out.xb
  have z5 := HX5.out.zb
  clear KF hb5 HX4 x4 y4 hx5
  have d5 := blk_cell y5 5
  by_cases hc0 : c2 = 0
  ·subst hc0
   have q0 : ((0 : Int) != 0) = false := rfl
   go_upto_region 10 with (refine wpList_store_rowTo rfl 53 _ _ rfl rfl x #[.string s, .slice Ab nf cb, .int .i64 (r2.1 : Int), .slice Ao o.length co, .int .i64 m, .int .i64 0] rfl rfl 53 _ x5 infoState rfl (st_one _ _ _ _ _ _ _ _ _ _) ?_)
   have hr0 : r2.2.1 = 0 ∧ r2.2.2 ≤ 29 := by
    have h := HC2.out
    unfold rfail at h
    split at h
    ·cases h
    ·rename_i hn
     refine ⟨h.symm, ?_⟩
     by_cases h9 : 29 < r2.2.2
     ·exact absurd ⟨decide_eq_true h9, h.symm⟩ hn
     ·omega
   obtain ⟨h29, hd0⟩ : r2.2.2 ≤ 29 ∧ 0 ≤ r2.2.2 := ⟨hr0.2, (g2 g1.1).2⟩
   have hq := (g2 g1.1).1
   have HRES1 := HRES.out
   rw [if_neg (by simp)] at HRES1
   clear hr0 HC2 HRES x5 y5 z5 d5 g2
   obtain ⟨q, er, d⟩ := r2
   dsimp only at *
   obtain ⟨D, rfl⟩ := Int.eq_ofNat_of_zero_le hd0
   rw [Int.toNat_natCast] at HRES1
   have hD : D < 30 := by omega
   obtain ⟨ds1, ds2, ds3⟩ := dist_small D hD
   have KE := Aside0.mk (fun W => binderyref10_Extra.calls (D : Int) 4 2 _ W (extra_f (D : Int) 4 2 (by omega) (by omega) (by omega)))
   have KL := Aside0.mk (fun W => binderyref10_Distance.calls 60 (D : Int) _ W (dist_least D hD))
   have KB := Aside0.mk (fun W => rbits_calls W s Ab Ao nf cb o.length co q (distT.getD D (0, 0)).2 m 0 hs hq (by omega))
   have g3 := rbits_range s q 0 (distT.getD D (0, 0)).2 hq
   rw [dist_extra D hD] at KE
   obtain ⟨r3, hr3⟩ : ∃ r, r = rbits s q 0 (distT.getD D (0, 0)).2 := ⟨_, rfl⟩
   rw [← hr3] at KB g3 HRES1
   obtain ⟨dw, hdw⟩ : ∃ t, t = (distT.getD D (0, 0)).2 := ⟨_, rfl⟩
   obtain ⟨dl, hdl⟩ : ∃ t, t = (distT.getD D (0, 0)).1 := ⟨_, rfl⟩
   rw [← hdw] at KE KB g3 ds1
   rw [← hdl] at KL HRES1 ds2 ds3
   have HRES := Aside0.mk HRES1
   clear hr3 hdw hdl HRES1 h29 hd0
   generalize World.setRow W5 x _ = W6 at HX5 ⊢
   have KR := Aside0.mk (fun (w' : World) (hb : Below W6.heap.size W6 w') => And.intro (st_cells (HX5.out.below hb).xb) (st_free (HX5.out.below hb).xb))
   obtain ⟨kr0, _⟩ := KR.out _ (Below.refl _ _)
   go_cut [10] (fun v10 wc => v10 = .int .i64 r3.2.2 ∧ Aside0 (Bx w wc N0 x z #[.string s, .slice Ab nf cb, .int .i64 (r3.1 : Int), .slice Ao o.length co, .int .i64 m, .int .i64 r3.2.1]))
   case first =>
    obtain ⟨k0, k1, k2, k3, k4, k5⟩ := kr0
    go_region_with (first | (go_at_call 79; refine (KE.out _).mono ?_; rintro e w2 ⟨rfl, hd2⟩; obtain ⟨n2, rfl⟩ := hd2.out) | (go_at_call 27; refine (KB.out _).mono ?_; rintro e w3 ⟨rfl, hb3⟩; have hb4 : Below W6.heap.size W6 w3 := ⟨hb3.os, hb3.tape, hb3.output, hb3.size, hb3.block⟩; obtain ⟨⟨d0, d1, d2, d3, d4, d5⟩, f0, f1, f2, f3, f4, f5⟩ := KR.out w3 hb4))
    all_goals
     go_wp2_with fail
     go_meet
     exact ⟨rfl, ⟨(HX5.out.below hb4).set6 _ _ _ _ _ _⟩⟩
   case rest =>
    obtain ⟨rfl, HX7⟩ := hcut
    clear kr0 KR HX5 KE KB
    have hpow2 : (2 : Int) ^ dw ≤ 2 ^ 13 := pow_le2 ds1
    go_wp2_with fail
    refine (KL.out _).mono ?_
    rintro e W8 ⟨rfl, hd8⟩
    have hx8 := HX7.out.drawn hd8
    have HX8 := Aside0.mk hx8
    have x8 := hx8.xb
    have d8 := blk_cell x8 3
    obtain ⟨c3, hc3⟩ : ∃ c, c = rfail r3.2.1 (decide ((o.length : Int) < dl + r3.2.2)) 3 := ⟨_, rfl⟩
    obtain ⟨c4, hc4⟩ : ∃ c, c = rfail c3 (decide (m < (o.length : Int) + (tl + r1.2.2))) 7 := ⟨_, rfl⟩
    have KF3 := Aside0.mk (fun W => rfail_calls W s Ab Ao nf cb o.length co r3.1 m r3.2.1 3 (decide ((o.length : Int) < dl + r3.2.2)))
    have KF4 := Aside0.mk (fun W => rfail_calls W s Ab Ao nf cb o.length co r3.1 m c3 7 (decide (m < (o.length : Int) + (tl + r1.2.2))))
    rw [← hc3] at HRES KF3
    rw [← hc4] at HRES KF4
    have HC := Aside0.mk (And.intro hc3 hc4)
    clear hc3 hc4 KL hd8 HX7 hx8
    go_wp2_with (refine wpList_load_row rfl 53 _ rfl x rfl 53 _ (0, 0) _ x8 Tryz.underlying53 rfl infoState ?_)
    refine (KF3.out _).mono ?_
    rintro e W9 ⟨rfl, hb9⟩
    have hx9 := HX8.out.below hb9
    have x9 := hx9.xb
    have HX9 := Aside0.mk (hx9.put #[.string s, .slice Ab nf cb, .int .i64 (r3.1 : Int), .slice Ao o.length co, .int .i64 m, .int .i64 c3])
    have y9 := HX9.out.xb
    have d9 := blk_cell y9 3
    have e9 := blk_cell y9 4
    clear KF3 hb9 HX8 x8 d8 hx9
    go_wp2_with (first | (refine wpList_store_rowTo rfl 53 _ _ rfl rfl x #[.string s, .slice Ab nf cb, .int .i64 (r3.1 : Int), .slice Ao o.length co, .int .i64 m, .int .i64 c3] rfl rfl 53 _ x9 infoState rfl (st_one _ _ _ _ _ _ _ _ _ _) ?_) | (refine wpList_load_row rfl 53 _ rfl x rfl 53 _ (0, 0) _ y9 Tryz.underlying53 rfl infoState ?_))
    refine (KF4.out _).mono ?_
    rintro e W10 ⟨rfl, hb10⟩
    have hx10 := HX9.out.below hb10
    have x10 := hx10.xb
    have HX10 := Aside0.mk (hx10.put #[.string s, .slice Ab nf cb, .int .i64 (r3.1 : Int), .slice Ao o.length co, .int .i64 m, .int .i64 c4])
    clear KF4 hb10 HX9 x9 y9 d9 e9 hx10
    go_wp2_with (refine wpList_store_rowTo rfl 53 _ _ rfl rfl x #[.string s, .slice Ab nf cb, .int .i64 (r3.1 : Int), .slice Ao o.length co, .int .i64 m, .int .i64 c4] rfl rfl 53 _ x10 infoState rfl (st_one _ _ _ _ _ _ _ _ _ _) ?_)
    generalize World.setRow W10 x _ = W11 at HX10 ⊢
    obtain ⟨N, hN⟩ := Int.eq_ofNat_of_zero_le (show 0 ≤ tl + r1.2.2 by omega)
    obtain ⟨K, hK⟩ := Int.eq_ofNat_of_zero_le (show 0 ≤ dl + r3.2.2 by omega)
    have hN0 : 0 < N := by omega
    have hN1 : N ≤ 1000 := by omega
    have hK1 : 1 ≤ K := by omega
    have HRES1 := HRES.out
    have HC1 := HC.out
    rw [hN] at HRES1 HC1 ⊢
    rw [hK] at HRES1 HC1 ⊢
    rw [Int.toNat_natCast, Int.toNat_natCast] at HRES1
    clear HRES HC hN hK hpow hpow2 g1 g3 ls1 ls2 ls3 ds1 ds2 ds3 HR
    have hBw : B ≤ W11.heap.size := Nat.le_trans hB HX10.out.fr.size
    have HXA := HX10
    clear HX10
    by_cases h4 : c4 = 0
    ·subst h4
     have hcc : r3.2.1 = 0 ∧ c3 = 0 ∧ (K : Int) ≤ (o.length : Int) ∧ (o.length : Int) + (N : Int) ≤ m := by
      obtain ⟨a1, a2⟩ := HC1
      unfold rfail at a1 a2
      by_cases b2 : m < (o.length : Int) + (N : Int)
      ·rw [decide_eq_true b2] at a2
       split at a2
       ·cases a2
       ·rename_i hn; exact absurd ⟨rfl, a2.symm⟩ hn
      ·rw [decide_eq_false b2, if_neg (by simp)] at a2
       subst a2
       by_cases b1 : (o.length : Int) < (K : Int)
       ·rw [decide_eq_true b1] at a1
        split at a1
        ·cases a1
        ·rename_i hn; exact absurd ⟨rfl, a1.symm⟩ hn
       ·rw [decide_eq_false b1, if_neg (by simp)] at a1
        exact ⟨a1.symm, rfl, by omega, by omega⟩
     obtain ⟨-, -, hko, hnm⟩ := hcc
     rw [if_pos rfl] at HRES1
     have HRES := Aside0.mk HRES1
     have HH : Aside0 (_ ∧ _) := ⟨HXA.out.mono (S' := S8 B w) (fun _ _ h => h.elim), HXA.out.row HO0.out.1⟩
     have s60 : decide ((o.length : Int) < (K : Int)) = false := decide_eq_false (by omega)
     rw [s60]
     clear s60
     clear HRES1 HC1 HXA
     go_loopw [14] (fun v14 wr => ∃ (j : Nat) (ol : List Int) (A7 : Option Addr) (k7 : Nat), v14 = .int .i64 j ∧ j ≤ N ∧ ol.length = o.length + j ∧ Aside0 (Bx w wr (S8 B w) x z #[.string s, .slice Ab nf cb, .int .i64 (r3.1 : Int), .slice A7 ol.length k7, .int .i64 m, .int .i64 0] ∧ Row wr B 5 .u8 (.slice A7 ol.length k7) ol ∧ ol ++ copyL K (N - j) ol = o ++ copyL K N o)) (fun v14 _ => N - (intOf v14).toNat)
     case atStart => exact ⟨0, o, Ao, co, rfl, by omega, by omega, ⟨HH.out.1, HH.out.2, by simp⟩⟩
     case round =>
      clear HH hBw
      obtain ⟨j, ol, A7, k7, rfl, hj, hol, HW⟩ := hrel
      have q5 : ((0 : Int) == 0) = true := rfl
      by_cases hlt : j < N
      ·have s1 : decide ((j : Int) < (N : Int)) = true := decide_eq_true (by omega)
       have s1n : decide (j < N) = true := decide_eq_true hlt
       obtain ⟨A', c', hv', hrd7⟩ := HW.out.2.1.reads
       injection hv' with hv1 hv2 hv3
       subst hv1
       obtain ⟨ix, hix⟩ : ∃ ix, ix = ol.length - K := ⟨_, rfl⟩
       have hix2 : (ol.length : Int) - (K : Int) = (ix : Int) := by omega
       obtain ⟨ad, hadd, hcell⟩ := ReadsInt.at_ hrd7 (ix : Int) (by omega) (by omega)
       subst hadd
       rw [Int.toNat_natCast, rd, Int.toNat_natCast] at hcell
       obtain ⟨y, hy⟩ : ∃ y, y = ol.getD ix 0 := ⟨_, rfl⟩
       rw [← hy] at hcell
       have HY : Aside0 (y = ol.getD (ol.length - K) 0) := ⟨by rw [hy, hix]⟩
       have hixI0 : (0 : Int) ≤ (ix : Int) := by omega
       have hixI1 : (ix : Int) < (ol.length : Int) := by omega
       have hixW : IntKind.i64.wrap (ix : Int) = (ix : Int) := by rw [IntKind.wrap_i64]; omega
       have hBr : B ≤ wr.heap.size := Nat.le_trans hB HW.out.1.fr.size
       have hl1 : ol.length + 1 ≤ maxLen := by unfold maxLen; omega
       have hl2 : (ol.length + 1) * 1 ≤ 140737488355328 := by omega
       have HLN := Aside0.mk hol
       have hnw : ∀ j u, (nums .u8 [y])[j]? = some u → (wr.alloc (.cells #[.int .u8 y] 5)).drew.cell? ((⟨wr.heap.size, 0, none⟩ : Addr).add j) = some u := news_lit wr .u8 [y] #[.int .u8 y] 5 rfl
       have hrw : Row (wr.alloc (.cells #[.int .u8 y] 5)).drew B 5 .u8 (.slice (some ad) ol.length k7) ol := (HW.out.2.1.alloc (.cells #[.int .u8 y] 5)).drew
       have hBy : B ≤ (wr.alloc (.cells #[.int .u8 y] 5)).drew.heap.size := by simp; omega
       have e7 : (wr.alloc (.cells #[.int .u8 y] 5)).drew.cell? ⟨x, 3, none⟩ = some (.slice (some ad) ol.length k7) := (blk_cell (blk_alloc (show wr.heap[x]? = _ from HW.out.1.xb) _) 3)
       have e8 : (wr.alloc (.cells #[.int .u8 y] 5)).drew.cell? (ad.add ix) = some (.int .u8 y) := ((below_alloc (Below.refl wr.heap.size wr) _).cell (World.block_lt_of_cell? wr _ hcell)).trans hcell
       clear hix hy hrd7 hol hv2 hv3 hs hp hB hk hm0 hq hD hnm hko hK1 hN0 hBr
       have e3 : wr.cell? ⟨x, 3, none⟩ = some (.slice (some ad) ol.length k7) := blk_cell HW.out.1.xb 3
       have e5 : wr.cell? ⟨x, 5, none⟩ = some (.int .i64 0) := blk_cell HW.out.1.xb 5
       have hcs := copyL_snoc K (N - (j + 1)) ol
       rw [show N - (j + 1) + 1 = N - j by omega, ← HY.out] at hcs
       have HCS : Aside0 (ol ++ [y] ++ copyL K (N - (j + 1)) (ol ++ [y]) = o ++ copyL K N o) := ⟨hcs.symm.trans HW.out.2.2⟩
       clear hcs HY
       go_upto_block 1 with fail
       go_cut [14] (fun v14 wc => v14 = .int .i64 (j : Int) ∧ ∃ (A8 : Option Addr) (k8 : Nat), Aside0 (Bx w wc (S8 B w) x z #[.string s, .slice Ab nf cb, .int .i64 (r3.1 : Int), .slice A8 (ol ++ [y]).length k8, .int .i64 m, .int .i64 0] ∧ Row wc B 5 .u8 (.slice A8 (ol ++ [y]).length k8) (ol ++ [y])))
       case first =>
        go_wp2_with fail
        go_region_law ((refine app_step B rfl _ _ 44 5 .u8 1 rfl Tryz.underlying44 infoU8 (.slice (some ad) ol.length k7) ol [y] rfl ⟨wr.heap.size, 0, none⟩ 1 1 rfl rfl hnw hrw hBy hl1 hl2 ?_; intro v8 w8 hap; obtain ⟨A8, n8, k8, hv8, hn8⟩ := hap.row.shape; subst hv8; have hap1 := hap.undrew; have hb8 := (HW.out.1.below (below_alloc (Below.refl _ _) _)).app (HW.out.2.1.alloc _) hap1; have f8 := blk_frozen hb8.xb 3; have d8 : w8.cell? ⟨x, 3, none⟩ = some (.slice (some ad) ol.length k7) := blk_cell hb8.xb 3))
        all_goals
         have h1 := hb8.set 3 (.slice A8 n8 k8)
         have h2 := hap1.row.set hb8.xb (by decide) 3 (.slice A8 n8 k8)
         generalize World.setCell w8 _ _ = W12 at h1 h2 ⊢
         rw [hn8.out] at h1 h2
         have HN := Aside0.mk (And.intro h1 h2)
         clear hap hap1 hb8 f8 d8 h1 h2
         go_wp2_with fail
         go_meet
         exact ⟨rfl, A8, k8, HN⟩
       case rest =>
        obtain ⟨rfl, A8, k8, HN⟩ := hcut
        clear hnw hrw hBy e7 e8 e3 e5 hcell
        go_wp2_with fail
        go_roundw
        case rel => exact ⟨j + 1, ol ++ [y], A8, k8, by go_num, by omega, by rw [List.length_append, List.length_singleton, HLN.out]; omega, ⟨HN.out.1, HN.out.2, HCS.out⟩⟩
        case measure => simp [intOf]; omega
      ·have s1 : decide ((j : Int) < (N : Int)) = false := decide_eq_false (by omega)
       have s1n : decide (j < N) = false := decide_eq_false hlt
       obtain rfl : j = N := by omega
       have he := HW.out.2.2
       rw [Nat.sub_self, copyL, List.append_nil] at he
       have HEO := Aside0.mk he
       have xF := HW.out.1.xb
       have zF := HW.out.1.zb
       clear he
       have HZ := HW.out.1.out #[.string s, .slice Ab nf cb, .int .i64 (r3.1 : Int), .slice A7 ol.length k7, .int .i64 m, .int .i64 0]
       go_wp2_with (first | (refine wpList_load_row rfl 53 _ rfl x rfl 53 _ (0, 0) _ xF Tryz.underlying53 rfl infoState ?_) | (refine wpList_store_rowTo rfl 53 _ _ rfl rfl z #[.string s, .slice Ab nf cb, .int .i64 (r3.1 : Int), .slice A7 ol.length k7, .int .i64 m, .int .i64 0] rfl rfl 53 _ zF infoState rfl (st_one _ _ _ _ _ _ _ _ _ _) ?_))
       exact bodyPost_ret (results_cell_row Tryz.results48 _ _ z 53 #[.string s, .slice Ab nf cb, .int .i64 (r3.1 : Int), .slice A7 ol.length k7, .int .i64 m, .int .i64 0] (0, 0) _ rfl HZ.1 Tryz.underlying53 rfl infoState) rfl ⟨A7, k7, by rw [HRES.out, ← HEO.out], by rw [HRES.out, ← HEO.out]; exact HW.out.1.ans HW.out.2.1 _, HZ.2⟩
    ·have q4 : (c4 == 0) = false := beq_false_of_ne h4
     rw [if_neg h4] at HRES1
     subst HRES1
     have xF := HXA.out.xb
     have zF := HXA.out.zb
     have e5 : W11.cell? ⟨x, 5, none⟩ = some (.int .i64 c4) := blk_cell xF 5
     have s1 : decide ((0 : Int) < (N : Int)) = true := decide_eq_true (by omega)
     have s1n : decide (0 < N) = true := decide_eq_true hN0
     have HZ := HXA.out.out #[.string s, .slice Ab nf cb, .int .i64 (r3.1 : Int), .slice Ao o.length co, .int .i64 m, .int .i64 c4]
     clear HC1 hBw
     go_loopw [14] (fun v14 wr => v14 = .int .i64 0 ∧ wr = W11) (fun _ _ => 0)
     case atStart => exact ⟨rfl, rfl⟩
     case round =>
      obtain ⟨rfl, rfl⟩ := hrel
      go_wp2_with (first | (refine wpList_load_row rfl 53 _ rfl x rfl 53 _ (0, 0) _ xF Tryz.underlying53 rfl infoState ?_) | (refine wpList_store_rowTo rfl 53 _ _ rfl rfl z #[.string s, .slice Ab nf cb, .int .i64 (r3.1 : Int), .slice Ao o.length co, .int .i64 m, .int .i64 c4] rfl rfl 53 _ zF infoState rfl (st_one _ _ _ _ _ _ _ _ _ _) ?_))
      exact bodyPost_ret (results_cell_row Tryz.results48 _ _ z 53 #[.string s, .slice Ab nf cb, .int .i64 (r3.1 : Int), .slice Ao o.length co, .int .i64 m, .int .i64 c4] (0, 0) _ rfl HZ.1 Tryz.underlying53 rfl infoState) rfl ⟨Ao, co, rfl, HXA.out.ans (HXA.out.row HO0.out.1) _, HZ.2.mono (fun _ _ h => h.elim)⟩
  ·have q0 : (c2 != 0) = true := bne_iff_ne.2 hc0
   have HRES1 := HRES.out
   rw [if_pos hc0] at HRES1
   subst HRES1
   have HZ := HX5.out.out #[.string s, .slice Ab nf cb, .int .i64 (r2.1 : Int), .slice Ao o.length co, .int .i64 m, .int .i64 c2]
   go_wp2_with (first | (refine wpList_store_rowTo rfl 53 _ _ rfl rfl x #[.string s, .slice Ab nf cb, .int .i64 (r2.1 : Int), .slice Ao o.length co, .int .i64 m, .int .i64 c2] rfl rfl 53 _ x5 infoState rfl (st_one _ _ _ _ _ _ _ _ _ _) ?_) | (refine wpList_load_row rfl 53 _ rfl x rfl 53 _ (0, 0) _ y5 Tryz.underlying53 rfl infoState ?_) | (refine wpList_store_rowTo rfl 53 _ _ rfl rfl z #[.string s, .slice Ab nf cb, .int .i64 (r2.1 : Int), .slice Ao o.length co, .int .i64 m, .int .i64 c2] rfl rfl 53 _ z5 infoState rfl (st_one _ _ _ _ _ _ _ _ _ _) ?_))
   exact bodyPost_ret (results_cell_row Tryz.results48 _ _ z 53 #[.string s, .slice Ab nf cb, .int .i64 (r2.1 : Int), .slice Ao o.length co, .int .i64 m, .int .i64 c2] (0, 0) _ rfl HZ.1 Tryz.underlying53 rfl infoState) rfl ⟨Ao, co, rfl, HX5.out.ans (HX5.out.row HO0.out.1) _, HZ.2.mono (fun _ _ h => h.elim)⟩
end Go.Proofs.YtbgdadehjnifeaaGreat.Hand
