/- The document's inflate: coded; walked by hand. -/
import Derived.Test.YtbgdadehjnifeaaGreatRef10b
namespace Go.Proofs.YtbgdadehjnifeaaGreat.Hand
open Go.RowKit Go.Proofs.YtbgdadehjnifeaaGreatW.PrintWords Go.Proofs.YtbgdadehjnifeaaGreatW.PrintLast Go.Proofs.YtbgdadehjnifeaaGreatW.PrintMore Go.Proofs.YtbgdadehjnifeaaGreat.Num Go.Proofs.YtbgdadehjnifeaaGreat.Bits Go.Proofs.YtbgdadehjnifeaaGreat.P08 Go.Proofs.YtbgdadehjnifeaaGreat.P09r Go.Proofs.YtbgdadehjnifeaaGreat.P10n
set_option linter.unusedVariables false
set_option linter.unusedSimpArgs false
def rcoded (s : ByteArray) (m : Int) (near far : List Int) : Nat → Nat → List Int → Nat × List Int × Int
 | 0, p, o => (p, o, 99)
 | k + 1, p, o =>
  let b := rsym s p 0 near
  let c1 := rfail b.2.1 (decide (285 < b.2.2)) 4
  if c1 ≠ 0 then (b.1, o, c1) else if b.2.2 = 256 then (b.1, o, 0) else
  if b.2.2 < 256 then (let c2 := rfail 0 (decide (m < ((o ++ [b.2.2 % 256]).length : Int))) 7; if c2 = 0 then rcoded s m near far k b.1 (o ++ [b.2.2 % 256]) else (b.1, o ++ [b.2.2 % 256], c2))
  else (let r := rcopied s m b.1 o (b.2.2 - 257).toNat far; if r.2.2 = 0 then rcoded s m near far k r.1 r.2.1 else r)
theorem rcopied_range (s : ByteArray) (m : Int) (p : Nat) (o : List Int) (k : Nat) (dist : List Int) (hp : p ≤ 8 * s.size) (hol : (o.length : Int) ≤ m) (hk : k < 29) :
  p ≤ (rcopied s m p o k dist).1 ∧ (rcopied s m p o k dist).1 ≤ 8 * s.size ∧ ((rcopied s m p o k dist).2.1.length : Int) ≤ m := by
 have hsym : ∀ q c, q ≤ 8 * s.size → q ≤ (rsym s q c dist).1 ∧ (rsym s q c dist).1 ≤ 8 * s.size := fun q c hq => by
  unfold rsym
  split
  ·exact ⟨(rdT_le s _ _ _ _ _ _ _ _ q hq).1, rdS_le s dist q hq⟩
  ·exact ⟨Nat.le_refl _, hq⟩
 unfold rcopied
 dsimp only
 generalize (lensT.getD k (0, 0)).2 = tw
 generalize htl : (lensT.getD k (0, 0)).1 = tl
 have h1 := rbits_range s p 0 tw hp
 generalize rbits s p 0 tw = r1 at h1 ⊢
 have h2 := hsym r1.1 r1.2.1 h1.1
 have h2b := (rsym_range s r1.1 r1.2.1 dist h1.1).2
 generalize rsym s r1.1 r1.2.1 dist = r2 at h2 h2b ⊢
 have htl0 := (lens_small k hk).2.1
 rw [htl] at htl0
 split
 ·exact ⟨by omega, h2.2, hol⟩
 ·have h3 := rbits_range s r2.1 0 (distT.getD r2.2.2.toNat (0, 0)).2 h2.2
  generalize rbits s r2.1 0 (distT.getD r2.2.2.toNat (0, 0)).2 = r3 at h3 ⊢
  generalize rfail r3.2.1 _ 3 = c3
  refine ⟨by omega, h3.1, ?_⟩
  split
  ·rename_i h4
   rw [List.length_append, copyL_length]
   unfold rfail at h4
   by_cases h5 : m < (o.length : Int) + (tl + r1.2.2)
   ·rw [decide_eq_true h5] at h4
    split at h4
    ·cases h4
    ·rename_i h6; exact absurd ⟨rfl, h4⟩ h6
   ·omega
  ·exact hol
set_option maxRecDepth 100000 in
set_option maxHeartbeats 4000000 in
theorem rcoded_calls (w : World) (B : Nat) (s : ByteArray) (Ab Ao Al Ad : Option Addr) (cb co cl cd : Nat) (near far : List Int) (p : Nat) (o : List Int) (m : Int) (hs : s.size ≤ 1000000) (hp : p ≤ 8 * s.size) (hmn : mayF near = 0) (hmf : mayF far = 0) (hb : RdI w Ab cb (flat (bytesOf s))) (hl : RdI w Al cl near) (hd : RdI w Ad cd far)
  (ho : Row w B 5 .u8 (.slice Ao o.length co) o) (hB : B ≤ w.heap.size) (hol : (o.length : Int) ≤ m) (hm0 : m ≤ 10000000) (K : Nat) (hK : 8 * s.size < p + K) :
  Calls Tryz.prog 31 #[.agg #[.string s, .slice Ab (flat (bytesOf s)).length cb, .int .i64 (p : Int), .slice Ao o.length co, .int .i64 m, .int .i64 0], .slice Al near.length cl, .slice Ad far.length cd] w fun e w' => ROut B w s Ab cb m (rcoded s m near far K p o) e w' := by
 obtain ⟨res, hres⟩ : ∃ res, res = rcoded s m near far K p o := ⟨_, rfl⟩
 rw [← hres]
 have HRES := Aside0.mk hres
 have HO0 := Aside0.mk ho
 have hnl := (may_zero hmn).1
 have hfl := (may_zero hmf).1
 have hx0 := Bx.new w N0 #[.string s, .slice Ab (flat (bytesOf s)).length cb, .int .i64 (p : Int), .slice Ao o.length co, .int .i64 m, .int .i64 0]
 unfold ROut
 obtain ⟨nf, hnf⟩ : ∃ n, n = (flat (bytesOf s)).length := ⟨_, rfl⟩
 have HNF := Aside0.mk hnf
 rw [← hnf] at hx0 ⊢
 have HL : Aside0 (∀ W, Below w.heap.size w W → RdI W Ab cb (flat (bytesOf s)) ∧ RdI W Al cl near ∧ RdI W Ad cd far) := ⟨fun W h => ⟨hb.below h, hl.below h, hd.below h⟩⟩
 have HM : Aside0 (_ ∧ _) := ⟨hmn, hmf⟩
 obtain ⟨x, hx⟩ : ∃ x, x = w.heap.size := ⟨_, rfl⟩
 obtain ⟨z, hz⟩ : ∃ z, z = w.heap.size + 1 := ⟨_, rfl⟩
 clear hres ho hb hl hd hnf hmn hmf
 go_enter Tryz.func31, Tryz.ntmps31
 go_upto_region 1 with fail
 have hbw : Below w.heap.size w ((w.alloc (.cells #[.string s, .slice Ab nf cb, .int .i64 (p : Int), .slice Ao o.length co, .int .i64 m, .int .i64 0] 53)).alloc (.cells #[.string ⟨#[]⟩, .slice none 0 0, .int .i64 0, .slice none 0 0, .int .i64 0, .int .i64 0] 53)) := below_alloc (below_alloc (Below.refl _ _) _) _
 rw [← hz, ← hx] at hx0 ⊢
 generalize World.alloc (World.alloc w _) _ = W0 at hx0 hbw ⊢
 have HX0 : Aside0 (Bx w W0 N0 x z #[.string s, .slice Ab nf cb, .int .i64 (p : Int), .slice Ao o.length co, .int .i64 m, .int .i64 0] ∧ Below w.heap.size w W0) := ⟨hx0, hbw⟩
 clear hx0 hx hz hbw
 go_wp2_with fail
 refine (rcodes_calls Al cl near W0 (HL.out W0 HX0.out.2).2.1 (by omega)).mono ?_
 rintro e W1 ⟨A1, c1, rfl, hr1, hb1⟩
 have HX1 : Aside0 (Bx w W1 N0 x z #[.string s, .slice Ab nf cb, .int .i64 (p : Int), .slice Ao o.length co, .int .i64 m, .int .i64 0] ∧ Below w.heap.size w W1 ∧ RdI W1 A1 c1 (codesF near)) := ⟨HX0.out.1.below hb1, HX0.out.2.trans (hb1.mono HX0.out.2.size), hr1⟩
 clear HX0 hr1 hb1
 go_wp2_with fail
 refine (rcodes_calls Ad cd far W1 (HL.out W1 HX1.out.2.1).2.2 (by omega)).mono ?_
 rintro e W2 ⟨A2, c2, rfl, hr2, hb2⟩
 have HX2 : Aside0 (Bx w W2 N0 x z #[.string s, .slice Ab nf cb, .int .i64 (p : Int), .slice Ao o.length co, .int .i64 m, .int .i64 0] ∧ Below w.heap.size w W2) := ⟨HX1.out.1.below hb2, HX1.out.2.1.trans (hb2.mono HX1.out.2.1.size)⟩
 have h2 := HL.out W2 HX2.out.2
 have xb2 := HX2.out.1.xb
 have HR : Aside0 (∀ W, Fr W2 W (SB B x W2) → RdI W Ab cb (flat (bytesOf s)) ∧ RdI W Al cl near ∧ RdI W Ad cd far ∧ RdI W A1 c1 (codesF near) ∧ RdI W A2 c2 (codesF far)) := ⟨fun W h => ⟨h2.1.sb xb2 h, h2.2.1.sb xb2 h, h2.2.2.sb xb2 h, (HX1.out.2.2.below hb2).sb xb2 h, hr2.sb xb2 h⟩⟩
 have hB2 : B ≤ W2.heap.size := Nat.le_trans hB HX2.out.2.size
 have HS : Aside0 (Bx w W2 (S8 B w) x z #[.string s, .slice Ab nf cb, .int .i64 (p : Int), .slice Ao o.length co, .int .i64 m, .int .i64 0] ∧ Row W2 B 5 .u8 (.slice Ao o.length co) o ∧ Fr W2 W2 (SB B x W2)) := ⟨HX2.out.1.mono (fun _ _ h => h.elim), HX2.out.1.row HO0.out, Fr.refl _ _⟩
 clear HX1 HX2 hr2 hb2 h2 HL HO0 xb2
 go_wp2_with fail
 go_loopg [] K (fun kq wr => ∃ (p1 : Nat) (o1 : List Int) (c : Int) (A7 : Option Addr) (k7 : Nat), p1 ≤ 8 * s.size ∧ (c = 0 → 8 * s.size < p1 + kq) ∧ ((o1.length : Int) ≤ m ∨ c ≠ 0) ∧ Aside0 (Bx w wr (S8 B w) x z #[.string s, .slice Ab nf cb, .int .i64 (p1 : Int), .slice A7 o1.length k7, .int .i64 m, .int .i64 c] ∧ Row wr B 5 .u8 (.slice A7 o1.length k7) o1 ∧ Fr W2 wr (SB B x W2) ∧ res = (if c = 0 then rcoded s m near far kq p1 o1 else (p1, o1, c))))
 case atStart => exact ⟨p, o, 0, Ao, co, hp, fun _ => hK, .inl hol, ⟨HS.out.1, HS.out.2.1, HS.out.2.2, HRES.out⟩⟩
 case round =>
  clear HRES HS
  obtain ⟨p1, o1, c, A7, k7, hp1, hk, hol1, HW⟩ := hrel
  have xw := HW.out.1.xb
  have zw := HW.out.1.zb
  have d5 : wr.cell? ⟨x, 5, none⟩ = some (.int .i64 c) := blk_cell xw 5
  by_cases hc : c = 0
  ·subst hc
   cases gk with
   | zero => exact absurd (hk rfl) (by omega)
   | succ k1 =>
    have hrec := HW.out.2.2.2
    rw [if_pos rfl, rcoded] at hrec
    dsimp only at hrec
    have hRD := HR.out wr HW.out.2.2.1
    have g := rsym_range s p1 0 near hp1
    have KS := Aside0.mk (rsymbol_calls wr s Ab A7 Al A1 cb o1.length k7 cl c1 near p1 m 0 hs hp1 HM.out.1 hRD.1 hRD.2.1 hRD.2.2.2.1)
    have hadv : (rsym s p1 0 near).2.1 = 0 → p1 + 1 ≤ (rsym s p1 0 near).1 := fun h => by
     have e : rsym s p1 0 near = ((rdS s near p1).2.2, (rdS s near p1).2.1, (rdS s near p1).1) := if_pos rfl
     rw [e] at h ⊢
     exact rdS_adv hp1 h
    obtain ⟨⟨q, er, d⟩, hr⟩ : ∃ r, r = rsym s p1 0 near := ⟨_, rfl⟩
    rw [← hr] at g KS hrec hadv
    dsimp only at g KS hrec hadv
    rw [← HNF.out] at KS
    obtain ⟨c1', hc1⟩ : ∃ c, c = rfail er (decide (285 < d)) 4 := ⟨_, rfl⟩
    have KF := Aside0.mk (fun W => rfail_calls W s Ab A7 nf cb o1.length k7 q m er 4 (decide (285 < d)))
    rw [← hc1] at KF hrec
    have HC1 := Aside0.mk hc1
    have HREC := Aside0.mk hrec
    clear hRD hr hrec hc1
    have q5 : ((0 : Int) == 0) = true := rfl
    go_wp2_with (refine wpList_load_row rfl 53 _ rfl x rfl 53 _ (0, 0) _ xw Tryz.underlying53 rfl infoState ?_)
    refine KS.out.mono ?_
    rintro e W3 ⟨rfl, hb3⟩
    have HW3 : Aside0 (Bx w W3 (S8 B w) x z #[.string s, .slice Ab nf cb, .int .i64 (p1 : Int), .slice A7 o1.length k7, .int .i64 m, .int .i64 0] ∧ Row W3 B 5 .u8 (.slice A7 o1.length k7) o1 ∧ Fr W2 W3 (SB B x W2)) := ⟨HW.out.1.below hb3, HW.out.2.1.below hb3, HW.out.2.2.1.sbB hb3⟩
    clear KS hb3 HW d5 xw zw
    go_wp2_with fail
    refine (KF.out _).mono ?_
    rintro e W4 ⟨rfl, hb4'⟩
    have hb4 : Below W3.heap.size W3 W4 := (below_alloc (Below.refl W3.heap.size W3) _).trans (hb4'.mono (by simp))
    have hx4 := HW3.out.1.below hb4
    have x4 := hx4.xb
    have HW4 : Aside0 (Bx w _ (S8 B w) x z #[.string s, .slice Ab nf cb, .int .i64 (q : Int), .slice A7 o1.length k7, .int .i64 m, .int .i64 c1'] ∧ Row _ B 5 .u8 (.slice A7 o1.length k7) o1 ∧ Fr W2 _ (SB B x W2)) := ⟨hx4.put #[.string s, .slice Ab nf cb, .int .i64 (q : Int), .slice A7 o1.length k7, .int .i64 m, .int .i64 c1'], (HW3.out.2.1.below hb4).put x4 #[.string s, .slice Ab nf cb, .int .i64 (q : Int), .slice A7 o1.length k7, .int .i64 m, .int .i64 c1'], (HW3.out.2.2.sbB hb4).sbX (fr_setRow W4 x #[.string s, .slice Ab nf cb, .int .i64 (q : Int), .slice A7 o1.length k7, .int .i64 m, .int .i64 c1'])⟩
    clear KF hb4 hb4' HW3 hx4
    go_upto_region 6 with (refine wpList_store_rowTo rfl 53 _ _ rfl rfl x #[.string s, .slice Ab nf cb, .int .i64 (q : Int), .slice A7 o1.length k7, .int .i64 m, .int .i64 c1'] rfl rfl 53 _ x4 infoState rfl (st_one _ _ _ _ _ _ _ _ _ _) ?_)
    generalize World.setRow W4 x _ = W5 at HW4 ⊢
    have x5 := HW4.out.1.xb
    have z5 := HW4.out.1.zb
    have d5 : W5.cell? ⟨x, 5, none⟩ = some (.int .i64 c1') := blk_cell x5 5
    clear x4
    by_cases hc0 : c1' = 0
    ·subst hc0
     have q0 : ((0 : Int) != 0) = false := rfl
     have hcc : er = 0 ∧ d ≤ 285 := by
      have h := HC1.out
      unfold rfail at h
      split at h
      ·cases h
      ·rename_i hn
       refine ⟨h.symm, ?_⟩
       by_cases h9 : 285 < d
       ·exact absurd ⟨decide_eq_true h9, h.symm⟩ hn
       ·omega
     have hrec := HREC.out
     rw [if_neg (by simp)] at hrec
     have hadv1 := hadv hcc.1
     obtain ⟨D, hD⟩ := Int.eq_ofNat_of_zero_le g.2
     subst hD
     by_cases h256 : (D : Int) = 256
     ·have q6 : ((D : Int) == 256) = true := beq_iff_eq.2 h256
      rw [if_pos h256] at hrec
      subst hrec
      have HZ := HW4.out.1.out #[.string s, .slice Ab nf cb, .int .i64 (q : Int), .slice A7 o1.length k7, .int .i64 m, .int .i64 0]
      clear HREC hadv HC1
      go_wp2_with (first | (refine wpList_load_row rfl 53 _ rfl x rfl 53 _ (0, 0) _ x5 Tryz.underlying53 rfl infoState ?_) | (refine wpList_store_rowTo rfl 53 _ _ rfl rfl z #[.string s, .slice Ab nf cb, .int .i64 (q : Int), .slice A7 o1.length k7, .int .i64 m, .int .i64 0] rfl rfl 53 _ z5 infoState rfl (st_one _ _ _ _ _ _ _ _ _ _) ?_))
      exact bodyPost_ret (results_cell_row Tryz.results31 _ _ z 53 #[.string s, .slice Ab nf cb, .int .i64 (q : Int), .slice A7 o1.length k7, .int .i64 m, .int .i64 0] (0, 0) _ rfl HZ.1 Tryz.underlying53 rfl infoState) rfl ⟨A7, k7, rfl, HW4.out.1.ans HW4.out.2.1 _, HZ.2⟩
     ·have q6 : ((D : Int) == 256) = false := beq_false_of_ne h256
      rw [if_neg h256] at hrec
      have hd5' : (D : Int) ≤ 285 := hcc.2
      have hol2 : (o1.length : Int) ≤ m := by rcases hol1 with h | h; exact h; exact absurd rfl h
      have hkk1 : 8 * s.size < p1 + (k1 + 1) := by simpa using hk
      have hB5 : B ≤ W5.heap.size := Nat.le_trans hB HW4.out.1.fr.size
      clear HREC hadv HC1 hcc hol1 hk
      by_cases hlt : (D : Int) < 256
      ·have q7 : decide ((D : Int) < 256) = true := decide_eq_true hlt
       have q7n : decide (D < 256) = true := decide_eq_true (by omega)
       rw [if_pos hlt] at hrec
       obtain ⟨y, hy⟩ : ∃ y : Int, y = (D : Int) % 256 := ⟨_, rfl⟩
       have hyw : IntKind.u8.wrap (D : Int) = y := (IntKind.wrap_u8 _).trans hy.symm
       rw [← hy] at hrec
       obtain ⟨c6, hc6⟩ : ∃ c, c = rfail 0 (decide (m < ((o1 ++ [y]).length : Int))) 7 := ⟨_, rfl⟩
       rw [← hc6] at hrec
       have HREC := Aside0.mk hrec
       have HC6 := Aside0.mk hc6
       clear hrec hc6 hy
       have d3 : W5.cell? ⟨x, 3, none⟩ = some (.slice A7 o1.length k7) := blk_cell x5 3
       have hl1 : o1.length + 1 ≤ maxLen := by unfold maxLen; omega
       have hl2 : (o1.length + 1) * 1 ≤ 140737488355328 := by omega
       have hBx : B ≤ (W5.alloc (.cells #[.int .u8 y] 5)).heap.size := by simp; omega
       go_upto_region 10 with (at_builtin; refine app_wp B rfl _ _ 44 5 .u8 1 rfl Tryz.underlying44 infoU8 (.slice A7 o1.length k7) o1 [y] rfl ⟨W5.heap.size, 0, none⟩ 1 1 rfl rfl (news_lit W5 .u8 [y] _ _ (by rfl)) (HW4.out.2.1.alloc _) hBx hl1 hl2 ?_; intro v8 w8 hap; obtain ⟨A8, n8, k8, hv8, hn8⟩ := hap.row.shape; subst hv8; have hb8 := (HW4.out.1.below (below_alloc (Below.refl W5.heap.size W5) _)).app (HW4.out.2.1.alloc _) hap; have f8 := blk_frozen hb8.xb 3; have d8 : w8.cell? ⟨x, 3, none⟩ = some (.slice A7 o1.length k7) := blk_cell hb8.xb 3)
       have hx9 := hb8.set 3 (.slice A8 n8 k8)
       have hr9 := hap.row.set hb8.xb (by decide) 3 (.slice A8 n8 k8)
       have hf9 := ((HW4.out.2.2.sbB (below_alloc (Below.refl W5.heap.size W5) _)).sbS (app_s8 (HW4.out.2.1.alloc _) hap)).sbX ((Fr.refl w8 _).set1 (g := x) 3 (.slice A8 n8 k8))
       have HC := HC6.out
       rw [← hn8.out] at HC
       clear hap hb8 f8 d8 HW4 x5 z5 d5 d3 hBx hl1 hl2
       generalize World.setCell w8 _ _ = W9 at hx9 hr9 hf9 ⊢
       have HX9 : Aside0 (Bx w W9 (S8 B w) x z #[.string s, .slice Ab nf cb, .int .i64 (q : Int), .slice A8 n8 k8, .int .i64 m, .int .i64 0] ∧ Row W9 B 5 .u8 (.slice A8 n8 k8) (o1 ++ [y]) ∧ Fr W2 W9 (SB B x W2)) := ⟨hx9, hr9, hf9⟩
       clear hx9 hr9 hf9
       have x9 := HX9.out.1.xb
       have d9 : W9.cell? ⟨x, 3, none⟩ = some (.slice A8 n8 k8) := blk_cell x9 3
       have e9 : W9.cell? ⟨x, 4, none⟩ = some (.int .i64 m) := blk_cell x9 4
       have KF := Aside0.mk (fun W => rfail_calls W s Ab A8 nf cb n8 k8 q m 0 7 (decide (m < (n8 : Int))))
       rw [← HC] at KF
       clear HC
       go_wp2_with (refine wpList_load_row rfl 53 _ rfl x rfl 53 _ (0, 0) _ x9 Tryz.underlying53 rfl infoState ?_)
       refine (KF.out _).mono ?_
       rintro e WA ⟨rfl, hbA⟩
       have xA := blk_below x9 hbA
       have hxA := (HX9.out.1.below hbA).put #[.string s, .slice Ab nf cb, .int .i64 (q : Int), .slice A8 n8 k8, .int .i64 m, .int .i64 c6]
       have hrA := (HX9.out.2.1.below hbA).put xA #[.string s, .slice Ab nf cb, .int .i64 (q : Int), .slice A8 n8 k8, .int .i64 m, .int .i64 c6]
       have hfA := (HX9.out.2.2.sbB hbA).sbX (fr_setRow WA x #[.string s, .slice Ab nf cb, .int .i64 (q : Int), .slice A8 n8 k8, .int .i64 m, .int .i64 c6])
       have HXA : Aside0 (_ ∧ _ ∧ _) := ⟨hxA, hrA, hfA⟩
       clear HX9 x9 d9 e9 hbA KF hxA hrA hfA
       go_wp2_with (refine wpList_store_rowTo rfl 53 _ _ rfl rfl x #[.string s, .slice Ab nf cb, .int .i64 (q : Int), .slice A8 n8 k8, .int .i64 m, .int .i64 c6] rfl rfl 53 _ xA infoState rfl (st_one _ _ _ _ _ _ _ _ _ _) ?_)
       have HE : Aside0 (res = if c6 = 0 then rcoded s m near far k1 q (o1 ++ [y]) else (q, o1 ++ [y], c6)) := ⟨HREC.out⟩
       have hlen : (((o1 ++ [y]).length : Nat) : Int) ≤ m ∨ c6 ≠ 0 := by
        by_cases h9 : m < (((o1 ++ [y]).length : Nat) : Int)
        ·right; rw [HC6.out, decide_eq_true h9]; decide
        ·left; omega
       obtain ⟨hxA, hrA, hfA⟩ := HXA.out
       rw [hn8.out] at hxA hrA hfA
       clear HREC HC6 HXA
       go_roundg k1
       case measure => omega
       case rel => exact ⟨q, o1 ++ [y], c6, A8, k8, by omega, fun _ => by omega, hlen, by rw [hn8.out]; exact ⟨hxA, hrA, hfA, HE.out⟩⟩
      ·have q7 : decide ((D : Int) < 256) = false := decide_eq_false hlt
       have q7n : decide (D < 256) = false := decide_eq_false (by omega)
       rw [if_neg hlt] at hrec
       obtain ⟨kk, hkk⟩ : ∃ kk : Nat, (D : Int) - 257 = (kk : Int) := ⟨D - 257, by omega⟩
       rw [hkk, Int.toNat_natCast] at hrec
       have hkl : kk < 29 := by omega
       have hRD := HR.out W5 HW4.out.2.2
       have hrr := rcopied_range s m q o1 kk far g.1 hol2 hkl
       have KC := rcopied_calls W5 B s Ab A7 Ad A2 cb k7 cd c2 far q kk o1 m hs g.1 HM.out.2 hRD.1 hRD.2.2.1 hRD.2.2.2.2 HW4.out.2.1 hB5 hkl hol2 hm0
       unfold ROut at KC
       rw [← HNF.out] at KC
       obtain ⟨⟨q9, o9, c9⟩, hr9⟩ : ∃ r, r = rcopied s m q o1 kk far := ⟨_, rfl⟩
       rw [← hr9] at KC hrec hrr
       dsimp only at KC hrec hrr
       have HKC := Aside0.mk KC
       have HREC := Aside0.mk hrec
       clear hrec KC hr9 hRD
       go_wp2_with (refine wpList_load_row rfl 53 _ rfl x rfl 53 _ (0, 0) _ x5 Tryz.underlying53 rfl infoState ?_)
       refine HKC.out.mono ?_
       rintro e W6 ⟨A9, k9, rfl, hr6, hf6⟩
       have hx6 := HW4.out.1.s8 hf6
       have x6 := hx6.xb
       have hx7 := hx6.put #[.string s, .slice Ab nf cb, .int .i64 (q9 : Int), .slice A9 o9.length k9, .int .i64 m, .int .i64 c9]
       have hr7 := hr6.put x6 #[.string s, .slice Ab nf cb, .int .i64 (q9 : Int), .slice A9 o9.length k9, .int .i64 m, .int .i64 c9]
       have hf7 := (HW4.out.2.2.sbS hf6).sbX (fr_setRow W6 x #[.string s, .slice Ab nf cb, .int .i64 (q9 : Int), .slice A9 o9.length k9, .int .i64 m, .int .i64 c9])
       have HX7 : Aside0 (_ ∧ _ ∧ _) := ⟨hx7, hr7, hf7⟩
       clear HKC HW4 hr6 hf6 hx6 hx7 hr7 hf7 x5 z5 d5
       go_wp2_with (refine wpList_store_rowTo rfl 53 _ _ rfl rfl x #[.string s, .slice Ab nf cb, .int .i64 (q9 : Int), .slice A9 o9.length k9, .int .i64 m, .int .i64 c9] rfl rfl 53 _ x6 infoState rfl (st_one _ _ _ _ _ _ _ _ _ _) ?_)
       have HE : Aside0 (res = if c9 = 0 then rcoded s m near far k1 q9 o9 else (q9, o9, c9)) := ⟨HREC.out⟩
       clear HREC
       go_roundg k1
       case measure => omega
       case rel => exact ⟨q9, o9, c9, A9, k9, hrr.2.1, fun _ => by omega, .inl hrr.2.2, ⟨HX7.out.1, HX7.out.2.1, HX7.out.2.2, HE.out⟩⟩
    ·have q0 : (c1' != 0) = true := bne_iff_ne.2 hc0
     have hrec := HREC.out
     rw [if_pos hc0] at hrec
     subst hrec
     have HZ := HW4.out.1.out #[.string s, .slice Ab nf cb, .int .i64 (q : Int), .slice A7 o1.length k7, .int .i64 m, .int .i64 c1']
     clear HREC hadv HC1
     go_wp2_with (first | (refine wpList_load_row rfl 53 _ rfl x rfl 53 _ (0, 0) _ x5 Tryz.underlying53 rfl infoState ?_) | (refine wpList_store_rowTo rfl 53 _ _ rfl rfl z #[.string s, .slice Ab nf cb, .int .i64 (q : Int), .slice A7 o1.length k7, .int .i64 m, .int .i64 c1'] rfl rfl 53 _ z5 infoState rfl (st_one _ _ _ _ _ _ _ _ _ _) ?_))
     exact bodyPost_ret (results_cell_row Tryz.results31 _ _ z 53 #[.string s, .slice Ab nf cb, .int .i64 (q : Int), .slice A7 o1.length k7, .int .i64 m, .int .i64 c1'] (0, 0) _ rfl HZ.1 Tryz.underlying53 rfl infoState) rfl ⟨A7, k7, rfl, HW4.out.1.ans HW4.out.2.1 _, HZ.2⟩
  ·have q5 : (c == 0) = false := beq_false_of_ne hc
   have hrec := HW.out.2.2.2
   rw [if_neg hc] at hrec
   subst hrec
   have HZ := HW.out.1.out #[.string s, .slice Ab nf cb, .int .i64 (p1 : Int), .slice A7 o1.length k7, .int .i64 m, .int .i64 c]
   go_wp2_with (first | (refine wpList_load_row rfl 53 _ rfl x rfl 53 _ (0, 0) _ xw Tryz.underlying53 rfl infoState ?_) | (refine wpList_store_rowTo rfl 53 _ _ rfl rfl z #[.string s, .slice Ab nf cb, .int .i64 (p1 : Int), .slice A7 o1.length k7, .int .i64 m, .int .i64 c] rfl rfl 53 _ zw infoState rfl (st_one _ _ _ _ _ _ _ _ _ _) ?_))
   exact bodyPost_ret (results_cell_row Tryz.results31 _ _ z 53 #[.string s, .slice Ab nf cb, .int .i64 (p1 : Int), .slice A7 o1.length k7, .int .i64 m, .int .i64 c] (0, 0) _ rfl HZ.1 Tryz.underlying53 rfl infoState) rfl ⟨A7, k7, rfl, HW.out.1.ans HW.out.2.1 _, HZ.2⟩
end Go.Proofs.YtbgdadehjnifeaaGreat.Hand
