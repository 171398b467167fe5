/- The document's inflate: own; walked by hand. -/
import Derived.Test.YtbgdadehjnifeaaGreatRef10h
namespace Go.Proofs.YtbgdadehjnifeaaGreat.Hand
open Go.RowKit Go.Proofs.YtbgdadehjnifeaaGreatW.PrintWords Go.Proofs.YtbgdadehjnifeaaGreatW.PrintLast Go.Proofs.YtbgdadehjnifeaaGreatW.PrintMore Go.Proofs.YtbgdadehjnifeaaGreat.Num Go.Proofs.YtbgdadehjnifeaaGreat.Bits Go.Proofs.YtbgdadehjnifeaaGreat.P08 Go.Proofs.YtbgdadehjnifeaaGreat.P09r Go.Proofs.YtbgdadehjnifeaaGreat.P10n
set_option linter.unusedVariables false
set_option linter.unusedSimpArgs false
theorem RdI.take_ {w : World} {A : Option Addr} {c : Nat} {xs : List Int} (h : RdI w A c xs) (k : Nat) (hk : k ≤ xs.length) : RdI w A c (xs.take k) :=
 ⟨reads_take h.reads k hk, by have := h.cap; rw [List.length_take]; omega, fun h0 ad ha => h.typed (by rw [List.length_take] at h0; omega) ad ha⟩
theorem RdI.drop_ {w : World} {rg c : Nat} {xs : List Int} (h : RdI w (some ⟨rg, 0, none⟩) c xs) (k : Nat) (hk : k ≤ xs.length) : RdI w (some ⟨rg, k, none⟩) (c - k) (xs.drop k) := by
 have hr := reads_drop h.reads k hk (fun j => by simp only [Addr.add_lit, Nat.zero_add])
 rw [show (⟨rg, 0, none⟩ : Addr).add k = ⟨rg, k, none⟩ by rw [Addr.add_lit, Nat.zero_add]] at hr
 refine ⟨hr, by have := h.cap; rw [List.length_drop]; omega, fun h0 ad ha => ?_⟩
 injection ha with ha
 subst ha
 exact h.typed (by rw [List.length_drop] at h0; omega) ⟨rg, 0, none⟩ rfl
theorem rfail_zero' (b : Bool) (e : Int) : rfail 0 b e = if b = true then e else 0 := by unfold rfail; simp
theorem far_may {l : List Int} (h : farB l = true) : mayF l = 0 := by
 unfold farB at h
 unfold mayF
 by_cases h0 : chkF l = 0
 ·rw [h0]; decide
 ·by_cases h12 : chkF l = 12
  ·rw [if_pos (.inl h12)]
  ·by_cases h5 : chkF l = 5
   ·rw [if_pos (.inr h5)]
   ·rw [decide_eq_false h0, decide_eq_false h12, decide_eq_false h5] at h; cases h
set_option maxRecDepth 100000 in
set_option maxHeartbeats 4000000 in
theorem rown_calls (w : World) (B : Nat) (s : ByteArray) (Ab Ao : Option Addr) (cb co : Nat) (p : Nat) (o : List Int) (m : Int) (hs : s.size ≤ 1000000) (hp : p ≤ 8 * s.size) (hb : RdI w Ab cb (flat (bytesOf s)))
  (ho : Row w B 5 .u8 (.slice Ao o.length co) o) (hB : B ≤ w.heap.size) (hol : (o.length : Int) ≤ m) (hm0 : m ≤ 10000000) :
  Calls Tryz.prog 32 #[.agg #[.string s, .slice Ab (flat (bytesOf s)).length cb, .int .i64 (p : Int), .slice Ao o.length co, .int .i64 m, .int .i64 0]] w fun e w' => ROut B w s Ab cb m (rown s m p o) e w' := by
 obtain ⟨res, hres⟩ : ∃ res, res = rown s m p o := ⟨_, rfl⟩
 rw [← hres]
 unfold rown at hres
 dsimp only at hres
 have HO0 := Aside0.mk ho
 have hx0 := Bx.new w N0 #[.string s, .slice Ab (flat (bytesOf s)).length cb, .int .i64 (p : Int), .slice Ao o.length co, .int .i64 m, .int .i64 0]
 unfold ROut
 obtain ⟨nf, hnf⟩ : ∃ n, n = (flat (bytesOf s)).length := ⟨_, rfl⟩
 have HNF := Aside0.mk hnf
 rw [← hnf] at hx0 ⊢
 have HL : Aside0 (∀ W, Fr w W N0 → RdI W Ab cb (flat (bytesOf s))) := ⟨fun W h => hb.fr h (fun _ h => h.elim)⟩
 have g1 := rbits_range s p 0 5 hp
 have KB1 := Aside0.mk (fun W => rbits_calls W s Ab Ao nf cb o.length co p 5 m 0 hs hp (by omega))
 obtain ⟨r1, hr1⟩ : ∃ r, r = rbits s p 0 5 := ⟨_, rfl⟩
 rw [← hr1] at g1 KB1 hres
 have g2 := rbits_range s r1.1 r1.2.1 5 g1.1
 have KB2 := Aside0.mk (fun W => rbits_calls W s Ab Ao nf cb o.length co r1.1 5 m r1.2.1 hs g1.1 (by omega))
 obtain ⟨r2, hr2⟩ : ∃ r, r = rbits s r1.1 r1.2.1 5 := ⟨_, rfl⟩
 rw [← hr2] at g2 KB2 hres
 have g3 := rbits_range s r2.1 r2.2.1 4 g2.1
 have KB3 := Aside0.mk (fun W => rbits_calls W s Ab Ao nf cb o.length co r2.1 4 m r2.2.1 hs g2.1 (by omega))
 obtain ⟨r3, hr3⟩ : ∃ r, r = rbits s r2.1 r2.2.1 4 := ⟨_, rfl⟩
 rw [← hr3] at g3 KB3 hres
 simp only [Int.reducePow] at g1 g2 g3
 have HRES := Aside0.mk hres
 clear hres ho hb hnf hr1 hr2 hr3
 obtain ⟨x, hx⟩ : ∃ x, x = w.heap.size := ⟨_, rfl⟩
 obtain ⟨z, hz⟩ : ∃ z, z = w.heap.size + 1 := ⟨_, rfl⟩
 go_enter Tryz.func32, Tryz.ntmps32
 go_upto_region 1 with fail
 rw [← hz, ← hx] at hx0 ⊢
 generalize World.alloc (World.alloc w _) _ = W0 at hx0 ⊢
 have HX0 := Aside0.mk hx0
 clear hx0 hx hz
 have y0 := HX0.out.xb
 go_wp2_with (first | (refine wpList_load_row rfl 53 _ rfl x rfl 53 _ (0, 0) _ y0 Tryz.underlying53 rfl infoState ?_))
 refine (KB1.out _).mono ?_
 rintro e W1 ⟨rfl, hb1⟩
 have hx1 := HX0.out.below hb1
 have x1 := hx1.xb
 have HX1 := Aside0.mk (hx1.put #[.string s, .slice Ab nf cb, .int .i64 (r1.1 : Int), .slice Ao o.length co, .int .i64 m, .int .i64 r1.2.1])
 have y1 := HX1.out.xb
 clear KB1 hb1 hx1 HX0 y0
 go_wp2_with (first | (refine wpList_store_rowTo rfl 53 _ _ rfl rfl x #[.string s, .slice Ab nf cb, .int .i64 (r1.1 : Int), .slice Ao o.length co, .int .i64 m, .int .i64 r1.2.1] rfl rfl 53 _ x1 infoState rfl (st_one _ _ _ _ _ _ _ _ _ _) ?_) | (refine wpList_load_row rfl 53 _ rfl x rfl 53 _ (0, 0) _ y1 Tryz.underlying53 rfl infoState ?_))
 refine (KB2.out _).mono ?_
 rintro e W2 ⟨rfl, hb2⟩
 have hx2 := HX1.out.below hb2
 have x2 := hx2.xb
 have HX2 := Aside0.mk (hx2.put #[.string s, .slice Ab nf cb, .int .i64 (r2.1 : Int), .slice Ao o.length co, .int .i64 m, .int .i64 r2.2.1])
 have y2 := HX2.out.xb
 clear KB2 hb2 hx2 HX1 y1 x1
 go_wp2_with (first | (refine wpList_store_rowTo rfl 53 _ _ rfl rfl x #[.string s, .slice Ab nf cb, .int .i64 (r2.1 : Int), .slice Ao o.length co, .int .i64 m, .int .i64 r2.2.1] rfl rfl 53 _ x2 infoState rfl (st_one _ _ _ _ _ _ _ _ _ _) ?_) | (refine wpList_load_row rfl 53 _ rfl x rfl 53 _ (0, 0) _ y2 Tryz.underlying53 rfl infoState ?_))
 refine (KB3.out _).mono ?_
 rintro e W3 ⟨rfl, hb3⟩
 have hx3 := HX2.out.below hb3
 have x3 := hx3.xb
 have HX3 := Aside0.mk (hx3.put #[.string s, .slice Ab nf cb, .int .i64 (r3.1 : Int), .slice Ao o.length co, .int .i64 m, .int .i64 r3.2.1])
 have y3 := HX3.out.xb
 clear KB3 hb3 hx3 HX2 y2 x2
 obtain ⟨bad, hbad⟩ : ∃ b, b = decide (29 < r1.2.2 ∨ 29 < r2.2.2) := ⟨_, rfl⟩
 have KF := Aside0.mk (fun W => rfail_calls W s Ab Ao nf cb o.length co r3.1 m r3.2.1 4 bad)
 obtain ⟨c1, hc1⟩ : ∃ c, c = rfail r3.2.1 bad 4 := ⟨_, rfl⟩
 have HRES1 := HRES.out
 rw [← hbad, ← hc1] at HRES1
 rw [← hc1] at KF
 have HC1 := Aside0.mk hc1
 clear HRES hc1
 have HRES := Aside0.mk HRES1
 clear HRES1
 go_upto_region 4 with (first | (refine wpList_store_rowTo rfl 53 _ _ rfl rfl x #[.string s, .slice Ab nf cb, .int .i64 (r3.1 : Int), .slice Ao o.length co, .int .i64 m, .int .i64 r3.2.1] rfl rfl 53 _ x3 infoState rfl (st_one _ _ _ _ _ _ _ _ _ _) ?_))
 go_cut [5] (fun v5 wc => v5 = .int .i64 r3.2.2 ∧ Aside0 (Bx w wc N0 x z #[.string s, .slice Ab nf cb, .int .i64 (r3.1 : Int), .slice Ao o.length co, .int .i64 m, .int .i64 c1]))
 case first =>
  by_cases h1 : 29 < r1.2.2
  ·have q1 : decide (29 < r1.2.2) = true := decide_eq_true h1
   have hb : bad = true := by rw [hbad]; exact decide_eq_true (.inl h1)
   subst hb
   clear hbad
   go_wp2_with (refine wpList_load_row rfl 53 _ rfl x rfl 53 _ (0, 0) _ y3 Tryz.underlying53 rfl infoState ?_)
   refine (KF.out _).mono ?_
   rintro e W4 ⟨rfl, hb4⟩
   have x4 := blk_below y3 hb4
   go_wp2_with (refine wpList_store_rowTo rfl 53 _ _ rfl rfl x #[.string s, .slice Ab nf cb, .int .i64 (r3.1 : Int), .slice Ao o.length co, .int .i64 m, .int .i64 c1] rfl rfl 53 _ x4 infoState rfl (st_one _ _ _ _ _ _ _ _ _ _) ?_)
   go_meet
   exact ⟨rfl, ⟨(HX3.out.below hb4).put _⟩⟩
  ·have q1 : decide (29 < r1.2.2) = false := decide_eq_false h1
   by_cases h2 : 29 < r2.2.2
   ·have q2 : decide (29 < r2.2.2) = true := decide_eq_true h2
    have hb : bad = true := by rw [hbad]; exact decide_eq_true (.inr h2)
    subst hb
    clear hbad
    go_wp2_with (refine wpList_load_row rfl 53 _ rfl x rfl 53 _ (0, 0) _ y3 Tryz.underlying53 rfl infoState ?_)
    refine (KF.out _).mono ?_
    rintro e W4 ⟨rfl, hb4⟩
    have x4 := blk_below y3 hb4
    go_wp2_with (refine wpList_store_rowTo rfl 53 _ _ rfl rfl x #[.string s, .slice Ab nf cb, .int .i64 (r3.1 : Int), .slice Ao o.length co, .int .i64 m, .int .i64 c1] rfl rfl 53 _ x4 infoState rfl (st_one _ _ _ _ _ _ _ _ _ _) ?_)
    go_meet
    exact ⟨rfl, ⟨(HX3.out.below hb4).put _⟩⟩
   ·have q2 : decide (29 < r2.2.2) = false := decide_eq_false h2
    have hb : bad = false := by rw [hbad]; exact decide_eq_false (by omega)
    subst hb
    clear hbad
    go_wp2_with (refine wpList_load_row rfl 53 _ rfl x rfl 53 _ (0, 0) _ y3 Tryz.underlying53 rfl infoState ?_)
    refine (KF.out _).mono ?_
    rintro e W4 ⟨rfl, hb4⟩
    have x4 := blk_below y3 hb4
    go_wp2_with (refine wpList_store_rowTo rfl 53 _ _ rfl rfl x #[.string s, .slice Ab nf cb, .int .i64 (r3.1 : Int), .slice Ao o.length co, .int .i64 m, .int .i64 c1] rfl rfl 53 _ x4 infoState rfl (st_one _ _ _ _ _ _ _ _ _ _) ?_)
    go_meet
    exact ⟨rfl, ⟨(HX3.out.below hb4).put _⟩⟩
 case rest =>
  obtain ⟨rfl, HX4⟩ := hcut
  clear HX3 y3 x3 KF
  have d4 : wc.cell? ⟨x, 5, none⟩ = some (.int .i64 c1) := blk_cell HX4.out.xb 5
  by_cases h0 : c1 = 0
  ·subst h0
   have q0 : ((0 : Int) != 0) = false := rfl
   have HRES1 := HRES.out
   rw [if_neg (by simp)] at HRES1
   have hok : r3.2.1 = 0 ∧ ¬ (29 < r1.2.2 ∨ 29 < r2.2.2) := by
    have h := HC1.out
    unfold rfail at h
    split at h
    ·cases h
    ·rename_i hn
     refine ⟨h.symm, fun hh => hn ⟨?_, h.symm⟩⟩
     rw [hbad]; exact decide_eq_true hh
   obtain ⟨na, hna⟩ := Int.eq_ofNat_of_zero_le g1.2.2.1
   obtain ⟨nb, hnb⟩ := Int.eq_ofNat_of_zero_le g2.2.2.1
   obtain ⟨nc, hnc⟩ := Int.eq_ofNat_of_zero_le g3.2.2.1
   rw [hna, hnb, hnc] at HRES1
   rw [hna, hnb, hnc]
   have hna2 : na ≤ 29 := by have := hok.2; omega
   have hnb2 : nb ≤ 29 := by have := hok.2; omega
   have hnc2 : nc ≤ 15 := by omega
   have hp3 := g3.1
   simp only [Int.toNat_natCast] at HRES1
   clear HC1 hbad hok hna hnb hnc g1 g2 g3
   obtain ⟨hm, hhm⟩ : ∃ q, q = nc + 4 := ⟨_, rfl⟩
   obtain ⟨ab, hab⟩ : ∃ q, q = na + nb := ⟨_, rfl⟩
   obtain ⟨mn, hmn⟩ : ∃ q, q = ab + 258 := ⟨_, rfl⟩
   obtain ⟨near, hnear⟩ : ∃ q, q = na + 257 := ⟨_, rfl⟩
   have e1 : (nc : Int) + 4 = (hm : Int) := by omega
   have e2 : (na : Int) + (nb : Int) = (ab : Int) := by omega
   have e3 : (ab : Int) + 258 = (mn : Int) := by omega
   have e4 : (na : Int) + 257 = (near : Int) := by omega
   rw [← hhm, ← hab, ← hmn, ← hnear] at HRES1
   have hbounds : hm ≤ 100 ∧ mn ≤ 320 ∧ 257 ≤ near ∧ near ≤ 286 ∧ near + 1 ≤ mn ∧ mn ≤ near + 30 := by omega
   clear hhm hab hmn hnear
   have KH := Aside0.mk (fun W => rheads_calls W s Ab Ao nf cb o.length co r3.1 hm m hs hp3 (by omega))
   have hh1 : (rheads s hm r3.1).1 ≤ 8 * s.size := by unfold rheads; exact rheadsL_p s hm 19 0 r3.1 0 _ hp3
   obtain ⟨⟨p4, c4, l⟩, hh⟩ : ∃ r, r = rheads s hm r3.1 := ⟨_, rfl⟩
   rw [← hh] at KH HRES1 hh1
   dsimp only at KH HRES1 hh1
   obtain ⟨c2, hc2⟩ : ∃ c, c = rfail c4 (chkF l != 0) 4 := ⟨_, rfl⟩
   rw [← hc2] at HRES1
   have HC2 := Aside0.mk hc2
   clear HRES
   have HRES := Aside0.mk HRES1
   have y4 := HX4.out.xb
   clear HRES1 hh hc2
   go_wp2_with (refine wpList_load_row rfl 53 _ rfl x rfl 53 _ (0, 0) _ y4 Tryz.underlying53 rfl infoState ?_)
   refine (KH.out _).mono ?_
   rintro e W5 ⟨Al, kl, rfl, hrl, hl19, hb5⟩
   have hx5 := HX4.out.below hb5
   have x5 := hx5.xb
   have HX5 := Aside0.mk (hx5.put #[.string s, .slice Ab nf cb, .int .i64 (p4 : Int), .slice Ao o.length co, .int .i64 m, .int .i64 c4])
   have HRL : Aside0 (RdI (W5.setRow x #[.string s, .slice Ab nf cb, .int .i64 (p4 : Int), .slice Ao o.length co, .int .i64 m, .int .i64 c4]) Al kl l) := ⟨hrl.frX x5 (fr_setRow W5 x _)⟩
   clear KH hb5 hx5 HX4 y4 hrl d4
   go_upto_region 8 with (refine wpList_store_rowTo rfl 53 _ _ rfl rfl x #[.string s, .slice Ab nf cb, .int .i64 (p4 : Int), .slice Ao o.length co, .int .i64 m, .int .i64 c4] rfl rfl 53 _ x5 infoState rfl (st_one _ _ _ _ _ _ _ _ _ _) ?_)
   generalize World.setRow W5 x _ = W6 at HX5 HRL ⊢
   clear x5
   obtain ⟨kr0, _⟩ := And.intro (st_cells HX5.out.xb) trivial
   obtain ⟨k0, k1, k2, k3, k4, k5⟩ := kr0
   have KC := Aside0.mk (fun (nd : Nat) => (show Calls Tryz.prog 50 #[.slice Al 19 kl] (W6.drewN nd) fun e w' => e = .returned (.int .i64 (chkF l)) ∧ Drawn0 (W6.drewN nd) w' from by have h := rcheck_calls Al kl l (W6.drewN nd) HRL.out.reads HRL.out.cap; rw [hl19] at h; exact h))
   have KF := Aside0.mk (fun W => rfail_calls W s Ab Ao nf cb o.length co p4 m c4 4 (chkF l != 0))
   rw [← HC2.out] at KF
   have KRR := Aside0.mk (fun (w' : World) (hb : Below W6.heap.size W6 w') => And.intro (st_cells (HX5.out.below hb).xb) (st_free (HX5.out.below hb).xb))
   go_cut [6] (fun v6 wc => v6 = .slice Al 19 kl ∧ Aside0 (Bx w wc N0 x z #[.string s, .slice Ab nf cb, .int .i64 (p4 : Int), .slice Ao o.length co, .int .i64 m, .int .i64 c2] ∧ RdI wc Al kl l))
   case first =>
    go_region_with (first | (go_at_call 50; refine (KC.out 1).mono ?_; rintro e w2 ⟨rfl, hd2⟩; obtain ⟨n2, rfl⟩ := hd2.out) | (go_at_call 28; refine (KF.out _).mono ?_; rintro e w3 ⟨rfl, hb3⟩; have hb4 : Below W6.heap.size W6 w3 := ⟨hb3.os, hb3.tape, hb3.output, hb3.size, hb3.block⟩; obtain ⟨⟨d0, d1, d2, d3, d4, d5⟩, f0, f1, f2, f3, f4, f5⟩ := KRR.out w3 hb4))
    all_goals
     have hx7 := (HX5.out.below hb4)
     have hn := hx7.set6 (.string s) (.slice Ab nf cb) (.int .i64 (p4 : Int)) (.slice Ao o.length co) (.int .i64 m) (.int .i64 c2)
     go_wp2_with fail
     go_meet
     exact ⟨rfl, ⟨hn, (HRL.out.below hb4).frX hx7.xb (((((((Fr.refl w3 (· = x)).set1 (g := x) 0 _).set1 (g := x) 1 _).set1 (g := x) 2 _).set1 (g := x) 3 _).set1 (g := x) 4 _).set1 (g := x) 5 _)⟩⟩
   case rest =>
    obtain ⟨rfl, HX7⟩ := hcut
    clear KC KF KRR HX5 HRL k0 k1 k2 k3 k4 k5
    have y7 := HX7.out.1.xb
    have z7 := HX7.out.1.zb
    have d7 : wc.cell? ⟨x, 5, none⟩ = some (.int .i64 c2) := blk_cell y7 5
    by_cases h2 : c2 = 0
    ·subst h2
     have hok2 : c4 = 0 ∧ chkF l = 0 := by
      have h := HC2.out
      unfold rfail at h
      split at h
      ·cases h
      ·rename_i hn
       refine ⟨h.symm, ?_⟩
       by_cases h9 : chkF l = 0
       ·exact h9
       ·exact absurd ⟨bne_iff_ne.2 h9, h.symm⟩ hn
     have hml : mayF l = 0 := chk_may hok2.2
     have HRES1 := HRES.out
     rw [if_neg (by simp)] at HRES1
     obtain ⟨hb1, hb2, hb3, hb4, hb5, hb6⟩ := hbounds
     have KR := rrow_calls wc s Ab Ao Al o.length co cb kl l p4 mn m hs hh1 hml (by omega) (HL.out wc HX7.out.1.fr) HX7.out.2 400 (by omega)
     have hrg := rrowL_range s l mn (by omega) 400 p4 [] hh1 (by simp) (by simp; omega) (by simp)
     obtain ⟨⟨p5, c5, row⟩, hrr⟩ : ∃ r, r = rrowL s l mn 400 p4 [] := ⟨_, rfl⟩
     rw [← hrr] at KR HRES1 hrg
     rw [← HNF.out, hl19] at KR
     dsimp only at KR HRES1 hrg
     have HKR := Aside0.mk KR
     clear KR HRES
     have HRES := Aside0.mk HRES1
     clear HRES1 HC2 hrr hok2
     go_wp2_with (refine wpList_load_row rfl 53 _ rfl x rfl 53 _ (0, 0) _ y7 Tryz.underlying53 rfl infoState ?_)
     refine HKR.out.mono ?_
     rintro e W8 ⟨Ar, kr, rfl, hrow, hb8⟩
     have hx8 := HX7.out.1.below hb8
     have x8 := hx8.xb
     have HX8 := Aside0.mk (hx8.put #[.string s, .slice Ab nf cb, .int .i64 (p5 : Int), .slice Ao o.length co, .int .i64 m, .int .i64 c5])
     have HRW := Aside0.mk (hrow.putI x8 #[.string s, .slice Ab nf cb, .int .i64 (p5 : Int), .slice Ao o.length co, .int .i64 m, .int .i64 c5])
     have y8 := HX8.out.xb
     have d8 : (W8.setRow x #[.string s, .slice Ab nf cb, .int .i64 (p5 : Int), .slice Ao o.length co, .int .i64 m, .int .i64 c5]).cell? ⟨x, 5, none⟩ = some (.int .i64 c5) := blk_cell y8 5
     clear HKR hb8 hx8 HX7 y7 z7 d7 hrow
     by_cases h5 : c5 = 0
     ·subst h5
      have hrl : row.length = mn := hrg.2.2.2 rfl
      have HRES1 := HRES.out
      rw [if_neg (by simp)] at HRES1
      have HXR := Aside0.mk hrg.2.1
      have hp5 := hrg.1
      clear HRES hrg
      have HRES := Aside0.mk HRES1
      clear HRES1
      go_upto_region 14 with (first | (refine wpList_store_rowTo rfl 53 _ _ rfl rfl x #[.string s, .slice Ab nf cb, .int .i64 (p5 : Int), .slice Ao o.length co, .int .i64 m, .int .i64 0] rfl rfl 53 _ x8 infoState rfl (st_one _ _ _ _ _ _ _ _ _ _) ?_))
      generalize World.setRow W8 x _ = W9 at HX8 HRW d8 ⊢
      clear x8 y8 d8
      obtain ⟨Ar', kr', hv', hrd⟩ := HRW.out.reads
      injection hv' with hv1 hv2 hv3
      subst hv1
      obtain ⟨ad, hadd, _⟩ := ReadsInt.at_ hrd ((0 : Nat) : Int) (by omega) (by omega)
      subst hadd
      obtain ⟨rg, hrg⟩ := HRW.out.head
      subst hrg
      have HRI : Aside0 (RdI W9 (some ⟨rg, 0, none⟩) kr row) := ⟨RdI.row HRW.out⟩
      have hnle2 : near ≤ kr := by have := HRI.out.cap; omega
      have hmk : mn ≤ kr := by have := HRI.out.cap; omega
      have hcne : ¬ kr = near := by omega
      have htl : (row.take near).length = near := by rw [List.length_take]; omega
      have hdl : (row.drop near).length = mn - near := by rw [List.length_drop]; omega
      have HLEN := Aside0.mk (And.intro htl hdl)
      have HRLN := Aside0.mk hrl
      have hnm : near ≤ mn := by omega
      clear hrd hv2 hv3 htl hdl hrl
      go_quiet (fail)
      go_upto_region 15 with fail
      have HXA : Aside0 (Bx w (W9.drewN nq) N0 x z #[.string s, .slice Ab nf cb, .int .i64 (p5 : Int), .slice Ao o.length co, .int .i64 m, .int .i64 0]) := ⟨HX8.out.drawn ⟨nq, rfl⟩⟩
      have HRA : Aside0 (RdI (W9.drewN nq) (some ⟨rg, 0, none⟩) kr row) := ⟨HRI.out.below (pw_below_drewN (Below.refl _ _) nq)⟩
      clear HX8 HRW HRI
      generalize W9.drewN nq = WA at HXA HRA ⊢
      obtain ⟨kr0, _⟩ := And.intro (st_cells HXA.out.xb) trivial
      obtain ⟨k0, k1, k2, k3, k4, k5⟩ := kr0
      have KRR := Aside0.mk (fun (w' : World) (hb : Below WA.heap.size WA w') => And.intro (st_cells (HXA.out.below hb).xb) (st_free (HXA.out.below hb).xb))
      have hlt := HRA.out.take_ near (by rw [HRLN.out]; exact hnm)
      have hdr := HRA.out.drop_ near (by rw [HRLN.out]; exact hnm)
      have HTD := Aside0.mk (And.intro hlt hdr)
      have KCK := Aside0.mk (fun (nd : Nat) => (show Calls Tryz.prog 50 #[.slice (some ⟨rg, 0, none⟩) near kr] (WA.drewN nd) fun e w' => e = .returned (.int .i64 (chkF (row.take near))) ∧ Drawn0 (WA.drewN nd) w' from by have h := rcheck_calls (some ⟨rg, 0, none⟩) kr (row.take near) (WA.drewN nd) hlt.reads hlt.cap; rw [HLEN.out.1] at h; exact h))
      have KFA := Aside0.mk (fun (nd : Nat) => (show Calls Tryz.prog 52 #[.slice (some ⟨rg, near, none⟩) (mn - near) (kr - near)] (WA.drewN nd) fun e w' => e = .returned (.bool (farB (row.drop near))) ∧ Drawn0 (WA.drewN nd) w' from by have h := rfar_calls (some ⟨rg, near, none⟩) (kr - near) (row.drop near) (WA.drewN nd) hdr.reads hdr.cap (by rw [HLEN.out.2]; omega) (fun x hx => HXR.out x (List.mem_of_mem_drop hx)); rw [HLEN.out.2] at h; exact h))
      have hcell : WA.cell? ⟨rg, 256, none⟩ = some (.int .i64 (row.getD 256 0)) := by
       obtain ⟨ad', e, hc⟩ := HRA.out.reads.2.2 (by rw [HRLN.out]; omega)
       injection e with e
       subst e
       have := hc 256 (by rw [HRLN.out]; omega)
       rw [Addr.add_lit, Nat.zero_add] at this
       exact this
      obtain ⟨y, hy⟩ : ∃ y, y = row.getD 256 0 := ⟨_, rfl⟩
      rw [← hy] at hcell
      have HY := Aside0.mk hy
      obtain ⟨ck, hck⟩ : ∃ c, c = chkF (row.take near) := ⟨_, rfl⟩
      rw [← hck] at KCK
      obtain ⟨fb, hfb⟩ : ∃ b, b = farB (row.drop near) := ⟨_, rfl⟩
      rw [← hfb] at KFA
      have hob : ownBad row near = ((ck != 0) || (y == 0) || !fb) := by unfold ownBad; rw [hck, hy, hfb]
      have HRES1 := HRES.out
      rw [hob] at HRES1
      have HCF := Aside0.mk (And.intro hck hfb)
      clear hlt hdr hy hck hfb hob HRES HY
      have HRES := Aside0.mk HRES1
      clear HRES1
      obtain ⟨bb, hbb⟩ : ∃ b, b = ((ck != 0) || (y == 0) || !fb) := ⟨_, rfl⟩
      have KF := Aside0.mk (fun W => rfail_calls W s Ab Ao nf cb o.length co p5 m 0 4 bb)
      rw [rfail_zero'] at KF
      obtain ⟨c6, hc6⟩ : ∃ c : Int, c = (if bb = true then 4 else 0) := ⟨_, rfl⟩
      rw [← hc6] at KF
      have HBB := Aside0.mk (And.intro hbb hc6)
      clear hc6
      go_cut [8] (fun v8 wc => v8 = .slice (some ⟨rg, 0, none⟩) near kr ∧ Aside0 (Bx w wc N0 x z #[.string s, .slice Ab nf cb, .int .i64 (p5 : Int), .slice Ao o.length co, .int .i64 m, .int .i64 c6] ∧ RdI wc (some ⟨rg, 0, none⟩) kr row))
      case first =>
       by_cases hck0 : ck = 0
       ·subst hck0
        have q1 : ((0 : Int) != 0) = false := rfl
        by_cases hy0 : y = 0
        ·subst hy0
         have q2 : ((0 : Int) == 0) = true := rfl
         have hb1 : bb = true := hbb
         subst hb1
         clear hbb
         first | (go_region_with (first | (go_at_call 50; refine (KCK.out _).mono ?_; rintro e w2 ⟨rfl, hd2⟩; obtain ⟨n2, rfl⟩ := hd2.out) | (go_at_call 28; refine (KF.out _).mono ?_; rintro e w3 ⟨rfl, hb3⟩; have hb4' : Below WA.heap.size WA w3 := ⟨hb3.os, hb3.tape, hb3.output, hb3.size, hb3.block⟩; obtain ⟨⟨d0, d1, d2, d3, d4, d5⟩, f0, f1, f2, f3, f4, f5⟩ := KRR.out w3 hb4'))) | fail
         all_goals
          have hn := (HXA.out.below hb4').set6 (.string s) (.slice Ab nf cb) (.int .i64 (p5 : Int)) (.slice Ao o.length co) (.int .i64 m) (.int .i64 c6)
          have hr := (HRA.out.below hb4').frX (HXA.out.below hb4').xb (((((((Fr.refl w3 (· = x)).set1 (g := x) 0 (.string s)).set1 (g := x) 1 (.slice Ab nf cb)).set1 (g := x) 2 (.int .i64 (p5 : Int))).set1 (g := x) 3 (.slice Ao o.length co)).set1 (g := x) 4 (.int .i64 m)).set1 (g := x) 5 (.int .i64 c6))
          go_wp2_with fail
          go_meet
          exact ⟨rfl, ⟨hn, hr⟩⟩
        ·have q2 : (y == 0) = false := beq_false_of_ne hy0
         have hb1 : bb = !fb := by rw [hbb, q2]; rfl
         subst hb1
         clear hbb
         first | (go_region_with (first | (go_at_call 50; refine (KCK.out _).mono ?_; rintro e w2 ⟨rfl, hd2⟩; obtain ⟨n2, rfl⟩ := hd2.out) | (go_at_call 52; refine (KFA.out _).mono ?_; rintro e w2' ⟨rfl, hd2'⟩; obtain ⟨n3, rfl⟩ := hd2'.out) | (go_at_call 28; refine (KF.out _).mono ?_; rintro e w3 ⟨rfl, hb3⟩; have hb4' : Below WA.heap.size WA w3 := ⟨hb3.os, hb3.tape, hb3.output, hb3.size, hb3.block⟩; obtain ⟨⟨d0, d1, d2, d3, d4, d5⟩, f0, f1, f2, f3, f4, f5⟩ := KRR.out w3 hb4'))) | fail
         all_goals
          have hn := (HXA.out.below hb4').set6 (.string s) (.slice Ab nf cb) (.int .i64 (p5 : Int)) (.slice Ao o.length co) (.int .i64 m) (.int .i64 c6)
          have hr := (HRA.out.below hb4').frX (HXA.out.below hb4').xb (((((((Fr.refl w3 (· = x)).set1 (g := x) 0 (.string s)).set1 (g := x) 1 (.slice Ab nf cb)).set1 (g := x) 2 (.int .i64 (p5 : Int))).set1 (g := x) 3 (.slice Ao o.length co)).set1 (g := x) 4 (.int .i64 m)).set1 (g := x) 5 (.int .i64 c6))
          go_wp2_with fail
          go_meet
          exact ⟨rfl, ⟨hn, hr⟩⟩
       ·have q1 : (ck != 0) = true := bne_iff_ne.2 hck0
        have hb1 : bb = true := by rw [hbb, q1]; rfl
        subst hb1
        clear hbb
        first | (go_region_with (first | (go_at_call 50; refine (KCK.out _).mono ?_; rintro e w2 ⟨rfl, hd2⟩; obtain ⟨n2, rfl⟩ := hd2.out) | (go_at_call 28; refine (KF.out _).mono ?_; rintro e w3 ⟨rfl, hb3⟩; have hb4' : Below WA.heap.size WA w3 := ⟨hb3.os, hb3.tape, hb3.output, hb3.size, hb3.block⟩; obtain ⟨⟨d0, d1, d2, d3, d4, d5⟩, f0, f1, f2, f3, f4, f5⟩ := KRR.out w3 hb4'))) | fail
        all_goals
         have hn := (HXA.out.below hb4').set6 (.string s) (.slice Ab nf cb) (.int .i64 (p5 : Int)) (.slice Ao o.length co) (.int .i64 m) (.int .i64 c6)
         have hr := (HRA.out.below hb4').frX (HXA.out.below hb4').xb (((((((Fr.refl w3 (· = x)).set1 (g := x) 0 (.string s)).set1 (g := x) 1 (.slice Ab nf cb)).set1 (g := x) 2 (.int .i64 (p5 : Int))).set1 (g := x) 3 (.slice Ao o.length co)).set1 (g := x) 4 (.int .i64 m)).set1 (g := x) 5 (.int .i64 c6))
         go_wp2_with fail
         go_meet
         exact ⟨rfl, ⟨hn, hr⟩⟩
      case rest =>
       obtain ⟨rfl, HXB⟩ := hcut
       clear KF KCK KFA KRR HXA HRA k0 k1 k2 k3 k4 k5 hcell HTD
       have yB := HXB.out.1.xb
       have zB := HXB.out.1.zb
       have dB : wc.cell? ⟨x, 5, none⟩ = some (.int .i64 c6) := blk_cell yB 5
       have HRES1 := HRES.out
       rw [← HBB.out.1] at HRES1
       have hc6 := HBB.out.2
       cases bb with
       | true =>
        rw [if_pos rfl] at hc6 HRES1
        subst hc6
        subst HRES1
        clear hbb
        have q6 : ((4 : Int) != 0) = true := rfl
        have HZ := HXB.out.1.out #[.string s, .slice Ab nf cb, .int .i64 (p5 : Int), .slice Ao o.length co, .int .i64 m, .int .i64 4]
        go_wp2_with (first | (refine wpList_load_row rfl 53 _ rfl x rfl 53 _ (0, 0) _ yB Tryz.underlying53 rfl infoState ?_) | (refine wpList_putA rfl 53 _ _ rfl rfl z #[.string s, .slice Ab nf cb, .int .i64 (p5 : Int), .slice Ao o.length co, .int .i64 m, .int .i64 4] rfl rfl 53 _ zB infoState rfl (st_one _ _ _ _ _ _ _ _ _ _) ?_; intro WZ hWZ) | (exact bodyPost_ret (results_cell_row Tryz.results32 _ _ z 53 #[.string s, .slice Ab nf cb, .int .i64 (p5 : Int), .slice Ao o.length co, .int .i64 m, .int .i64 4] (0, 0) _ rfl (by rw [hWZ.out]; exact HZ.1) Tryz.underlying53 rfl infoState) rfl (by rw [hWZ.out]; exact ⟨Ao, co, rfl, HXB.out.1.ans (HXB.out.1.row HO0.out) _, HZ.2.mono (fun _ _ h => h.elim)⟩)))
       | false =>
        rw [if_neg (by decide)] at hc6 HRES1
        subst hc6
        have q6 : ((0 : Int) != 0) = false := rfl
        have hck0 : ck = 0 := by
         have h := HBB.out.1
         by_cases h9 : ck = 0
         ·exact h9
         ·rw [show (ck != 0) = true from bne_iff_ne.2 h9] at h; cases h
        have hfb1 : fb = true := by
         have h := HBB.out.1
         cases fb with
         | true => rfl
         | false => rw [Bool.not_false, Bool.or_true] at h; cases h
        have hm1 : mayF (row.take near) = 0 := chk_may (HCF.out.1.symm.trans hck0)
        have hm2 : mayF (row.drop near) = 0 := far_may (HCF.out.2.symm.trans hfb1)
        have HRES := Aside0.mk HRES1
        clear HRES1 hbb
        have KC := rcoded_calls wc B s Ab Ao (some ⟨rg, 0, none⟩) (some ⟨rg, near, none⟩) cb co kr (kr - near) (row.take near) (row.drop near) p5 o m hs hp5 hm1 hm2 (HL.out wc HXB.out.1.fr) (HXB.out.2.take_ near (by rw [HRLN.out]; exact hnm)) (HXB.out.2.drop_ near (by rw [HRLN.out]; exact hnm)) (HXB.out.1.row HO0.out) (Nat.le_trans hB HXB.out.1.fr.size) hol hm0 bigK (by unfold bigK; omega)
        unfold ROut at KC
        rw [← HNF.out, HLEN.out.1, HLEN.out.2, ← HRES.out] at KC
        have HKC := Aside0.mk KC
        clear KC hm1 hm2 hck0 hfb1
        go_wp2_with (refine wpList_load_row rfl 53 _ rfl x rfl 53 _ (0, 0) _ yB Tryz.underlying53 rfl infoState ?_)
        refine HKC.out.mono ?_
        rintro e WC ⟨A9, k9, rfl, hr9, hf9⟩
        have hxC := (HXB.out.1.mono (S' := S8 B w) (fun _ _ h => h.elim)).s8 hf9
        have HXC : Aside0 (_ ∧ _) := ⟨hxC, hr9⟩
        have zC := hxC.zb
        have HZ := hxC.out #[.string s, .slice Ab nf cb, .int .i64 (res.1 : Int), .slice A9 res.2.1.length k9, .int .i64 m, .int .i64 res.2.2]
        clear HKC hr9 hf9 hxC yB zB dB HXB HBB HRES
        go_wp2_with (first | (refine wpList_putA rfl 53 _ _ rfl rfl z #[.string s, .slice Ab nf cb, .int .i64 (res.1 : Int), .slice A9 res.2.1.length k9, .int .i64 m, .int .i64 res.2.2] rfl rfl 53 _ zC infoState rfl (st_one _ _ _ _ _ _ _ _ _ _) ?_; intro WZ hWZ) | (exact bodyPost_ret (results_cell_row Tryz.results32 _ _ z 53 #[.string s, .slice Ab nf cb, .int .i64 (res.1 : Int), .slice A9 res.2.1.length k9, .int .i64 m, .int .i64 res.2.2] (0, 0) _ rfl (by rw [hWZ.out]; exact HZ.1) Tryz.underlying53 rfl infoState) rfl (by rw [hWZ.out]; exact ⟨A9, k9, rfl, HXC.out.1.ans HXC.out.2 _, HZ.2⟩)))
     ·have q5 : (c5 != 0) = true := bne_iff_ne.2 h5
      have HRES1 := HRES.out
      rw [if_pos h5] at HRES1
      subst HRES1
      have HZ := HX8.out.out #[.string s, .slice Ab nf cb, .int .i64 (p5 : Int), .slice Ao o.length co, .int .i64 m, .int .i64 c5]
      have zz := HX8.out.zb
      go_wp2_with (first | (refine wpList_store_rowTo rfl 53 _ _ rfl rfl x #[.string s, .slice Ab nf cb, .int .i64 (p5 : Int), .slice Ao o.length co, .int .i64 m, .int .i64 c5] rfl rfl 53 _ x8 infoState rfl (st_one _ _ _ _ _ _ _ _ _ _) ?_) | (refine wpList_load_row rfl 53 _ rfl x rfl 53 _ (0, 0) _ y8 Tryz.underlying53 rfl infoState ?_) | (refine wpList_putA rfl 53 _ _ rfl rfl z #[.string s, .slice Ab nf cb, .int .i64 (p5 : Int), .slice Ao o.length co, .int .i64 m, .int .i64 c5] rfl rfl 53 _ zz infoState rfl (st_one _ _ _ _ _ _ _ _ _ _) ?_; intro WZ hWZ) | (exact bodyPost_ret (results_cell_row Tryz.results32 _ _ z 53 #[.string s, .slice Ab nf cb, .int .i64 (p5 : Int), .slice Ao o.length co, .int .i64 m, .int .i64 c5] (0, 0) _ rfl (by rw [hWZ.out]; exact HZ.1) Tryz.underlying53 rfl infoState) rfl (by rw [hWZ.out]; exact ⟨Ao, co, rfl, HX8.out.ans (HX8.out.row HO0.out) _, HZ.2.mono (fun _ _ h => h.elim)⟩)))
    ·have q2 : (c2 != 0) = true := bne_iff_ne.2 h2
     have HRES1 := HRES.out
     rw [if_pos h2] at HRES1
     subst HRES1
     have HZ := HX7.out.1.out #[.string s, .slice Ab nf cb, .int .i64 (p4 : Int), .slice Ao o.length co, .int .i64 m, .int .i64 c2]
     go_wp2_with (first | (refine wpList_load_row rfl 53 _ rfl x rfl 53 _ (0, 0) _ y7 Tryz.underlying53 rfl infoState ?_) | (refine wpList_putA rfl 53 _ _ rfl rfl z #[.string s, .slice Ab nf cb, .int .i64 (p4 : Int), .slice Ao o.length co, .int .i64 m, .int .i64 c2] rfl rfl 53 _ z7 infoState rfl (st_one _ _ _ _ _ _ _ _ _ _) ?_; intro WZ hWZ) | (exact bodyPost_ret (results_cell_row Tryz.results32 _ _ z 53 #[.string s, .slice Ab nf cb, .int .i64 (p4 : Int), .slice Ao o.length co, .int .i64 m, .int .i64 c2] (0, 0) _ rfl (by rw [hWZ.out]; exact HZ.1) Tryz.underlying53 rfl infoState) rfl (by rw [hWZ.out]; exact ⟨Ao, co, rfl, HX7.out.1.ans (HX7.out.1.row HO0.out) _, HZ.2.mono (fun _ _ h => h.elim)⟩)))
  ·have q0 : (c1 != 0) = true := bne_iff_ne.2 h0
   have HRES1 := HRES.out
   rw [if_pos h0] at HRES1
   subst HRES1
   have HZ := HX4.out.out #[.string s, .slice Ab nf cb, .int .i64 (r3.1 : Int), .slice Ao o.length co, .int .i64 m, .int .i64 c1]
   have zz := HX4.out.zb
   have yy := HX4.out.xb
   go_wp2_with (first | (refine wpList_load_row rfl 53 _ rfl x rfl 53 _ (0, 0) _ yy Tryz.underlying53 rfl infoState ?_) | (refine wpList_putA rfl 53 _ _ rfl rfl z #[.string s, .slice Ab nf cb, .int .i64 (r3.1 : Int), .slice Ao o.length co, .int .i64 m, .int .i64 c1] rfl rfl 53 _ zz infoState rfl (st_one _ _ _ _ _ _ _ _ _ _) ?_; intro WZ hWZ) | (exact bodyPost_ret (results_cell_row Tryz.results32 _ _ z 53 #[.string s, .slice Ab nf cb, .int .i64 (r3.1 : Int), .slice Ao o.length co, .int .i64 m, .int .i64 c1] (0, 0) _ rfl (by rw [hWZ.out]; exact HZ.1) Tryz.underlying53 rfl infoState) rfl (by rw [hWZ.out]; exact ⟨Ao, co, rfl, HX4.out.ans (HX4.out.row HO0.out) _, HZ.2.mono (fun _ _ h => h.elim)⟩)))
end Go.Proofs.YtbgdadehjnifeaaGreat.Hand
