/- The document's inflate: stored; walked by hand. -/
import Derived.Test.YtbgdadehjnifeaaGreatRef10
namespace Go.Proofs.YtbgdadehjnifeaaGreat.Hand
open Go.RowKit Go.Proofs.YtbgdadehjnifeaaGreatW.PrintWords Go.Proofs.YtbgdadehjnifeaaGreatW.PrintLast Go.Proofs.YtbgdadehjnifeaaGreatW.PrintMore Go.Proofs.YtbgdadehjnifeaaGreat.Num Go.Proofs.YtbgdadehjnifeaaGreat.Bits Go.Proofs.YtbgdadehjnifeaaGreat.P08 Go.Proofs.YtbgdadehjnifeaaGreat.P09r Go.Proofs.YtbgdadehjnifeaaGreat.P10n
set_option linter.unusedVariables false
set_option linter.unusedSimpArgs false
def rbytes (s : ByteArray) (p n : Nat) : ByteArray × Nat × Int := if rdAt p + n ≤ s.size then (s.extract (rdAt p) (rdAt p + n), 8 * (rdAt p + n), 0) else (⟨#[]⟩, p, 5)
def rstored (s : ByteArray) (m : Int) (p : Nat) (o : List Int) : Nat × List Int × Int :=
 let b1 := rbits s (8 * rdAt p) 0 16
 let b2 := rbits s b1.1 b1.2.1 16
 let c3 := rfail b2.2.1 (b1.2.2 + b2.2.2 != 65535) 4
 if c3 ≠ 0 then (b2.1, o, c3) else
  let b := rbytes s b2.1 b1.2.2.toNat
  (b.2.1, o ++ bytesOf b.1, rfail b.2.2 (decide (m < ((o ++ bytesOf b.1).length : Int))) 7)
theorem rbytes_f (s : ByteArray) (hs : s.size ≤ 1000000) (p : Nat) (hp : p ≤ 8 * s.size) (n : Nat) (hn : n ≤ 65535) :
  binderyref08_Bytes.f s p (n : Int) = some ((rbytes s p n).1, ((rbytes s p n).2.1 : Int), (rbytes s p n).2.2) ∧ (rbytes s p n).1.size ≤ 1000000 ∧ (rbytes s p n).2.1 ≤ 8 * s.size := by
 have hra : rdAt p ≤ s.size := by unfold rdAt; omega
 have e1 : Int.tdiv ((8 * rdAt p : Nat) : Int) 8 = (rdAt p : Int) := (td _ (by omega)).trans (by omega)
 unfold binderyref08_Bytes.f rbytes
 rw [if_neg (by omega), whole_f p (by omega), Option.bind_some, e1, w64 (x := (rdAt p : Int)) (by omega) (by omega), w64 (x := (s.size : Int) - (rdAt p : Int)) (by omega) (by omega)]
 by_cases h2 : rdAt p + n ≤ s.size
 ·rw [if_pos h2, if_neg (by omega), w64 (x := (rdAt p : Int) + (n : Int)) (by omega) (by omega), if_pos (by omega), if_pos (by omega), if_pos (by omega), w64 (by omega) (by omega), Int.toNat_natCast, show ((rdAt p : Int) + (n : Int)).toNat = rdAt p + n by omega]
  refine ⟨?_, ?_, by show 8 * (rdAt p + n) ≤ _; omega⟩
  ·congr 3
  ·show (s.extract _ _).size ≤ _
   rw [ByteArray.size_extract]; omega
 ·rw [if_neg h2, if_pos (by omega)]
  exact ⟨rfl, Nat.zero_le _, hp⟩
set_option maxRecDepth 100000 in
set_option maxHeartbeats 4000000 in
theorem rstored_calls (w : World) (B : Nat) (s : ByteArray) (Ab Ao : Option Addr) (cb co : Nat) (p : Nat) (o : List Int) (m : Int) (hs : s.size ≤ 1000000) (hp : p ≤ 8 * s.size)
  (ho : Row w B 5 .u8 (.slice Ao o.length co) o) (hB : B ≤ w.heap.size) (hol : (o.length : Int) ≤ m) (hm0 : m ≤ 10000000) :
  Calls Tryz.prog 29 #[.agg #[.string s, .slice Ab (flat (bytesOf s)).length cb, .int .i64 (p : Int), .slice Ao o.length co, .int .i64 m, .int .i64 0]] w fun e w' => ROut B w s Ab cb m (rstored s m p o) e w' := by
 obtain ⟨res, hres⟩ : ∃ res, res = rstored s m p o := ⟨_, rfl⟩
 rw [← hres]
 unfold rstored at hres
 dsimp only at hres
 have HO0 := Aside0.mk ho
 have hx0 := Bx.new w N0 #[.string s, .slice Ab (flat (bytesOf s)).length cb, .int .i64 (p : Int), .slice Ao o.length co, .int .i64 m, .int .i64 0]
 have KW := Aside0.mk (fun W => binderyref08_Whole.calls (p : Int) _ W (whole_f p (by omega)))
 have hra : 8 * rdAt p ≤ 8 * s.size := by unfold rdAt; omega
 unfold ROut
 obtain ⟨nf, hnf⟩ : ∃ n, n = (flat (bytesOf s)).length := ⟨_, rfl⟩
 rw [← hnf] at hx0 ⊢
 obtain ⟨r1, hr1⟩ : ∃ r, r = rbits s (8 * rdAt p) 0 16 := ⟨_, rfl⟩
 obtain ⟨r2, hr2⟩ : ∃ r, r = rbits s r1.1 r1.2.1 16 := ⟨_, rfl⟩
 have g1 := rbits_range s (8 * rdAt p) 0 16 hra
 have KB1 := Aside0.mk (fun W => rbits_calls W s Ab Ao nf cb o.length co (8 * rdAt p) 16 m 0 hs hra (by omega))
 rw [← hr1] at g1 KB1 hres
 have g2 := rbits_range s r1.1 r1.2.1 16 g1.1
 have KB2 := Aside0.mk (fun W => rbits_calls W s Ab Ao nf cb o.length co r1.1 16 m r1.2.1 hs g1.1 (by omega))
 rw [← hr2] at g2 KB2 hres
 obtain ⟨c3, hc3⟩ : ∃ c, c = rfail r2.2.1 (r1.2.2 + r2.2.2 != 65535) 4 := ⟨_, rfl⟩
 have KF := Aside0.mk (fun W => rfail_calls W s Ab Ao nf cb o.length co r2.1 m r2.2.1 4 (r1.2.2 + r2.2.2 != 65535))
 rw [← hc3] at hres KF
 have HRES := Aside0.mk hres
 clear hres ho hnf hr1 hr2 hc3
 obtain ⟨P0, hP0⟩ : ∃ P, P = 8 * rdAt p := ⟨_, rfl⟩
 rw [← hP0] at KW KB1 hra
 have hp16 : (2 : Int) ^ 16 = 65536 := rfl
 rw [hp16] at g1 g2
 clear hP0 hp16
 obtain ⟨x, hx⟩ : ∃ x, x = w.heap.size := ⟨_, rfl⟩
 obtain ⟨z, hz⟩ : ∃ z, z = w.heap.size + 1 := ⟨_, rfl⟩
 go_enter Tryz.func29, Tryz.ntmps29
 go_upto_region 1 with fail
 rw [← hz, ← hx] at hx0 ⊢
 have HX0 := Aside0.mk hx0
 clear hx0 hx hz
 generalize World.alloc (World.alloc w _) _ = W0 at HX0 ⊢
 have d0 : W0.cell? ⟨x, 2, none⟩ = some (.int .i64 (p : Int)) := blk_cell HX0.out.xb 2
 go_wp2_with fail
 refine (KW.out _).mono ?_
 rintro e W1 ⟨rfl, hd1⟩
 have hx1 := HX0.out.drawn hd1
 have e1 : W1.cell? ⟨x, 2, none⟩ = some (.int .i64 (p : Int)) := blk_cell hx1.xb 2
 have f1 := blk_frozen hx1.xb 2
 have HX1 := Aside0.mk (hx1.set 2 (.int .i64 (P0 : Int)))
 have x1 : (W1.setCell ⟨x, 2, none⟩ (.int .i64 (P0 : Int))).heap[x]? = some (.cells #[.string s, .slice Ab nf cb, .int .i64 (P0 : Int), .slice Ao o.length co, .int .i64 m, .int .i64 0] 53 (0, 0)) := HX1.out.xb
 clear HX0 d0 hd1 hx1 KW
 go_wp2_with (refine wpList_load_row rfl 53 _ rfl x rfl 53 _ (0, 0) _ x1 Tryz.underlying53 rfl infoState ?_)
 refine (KB1.out _).mono ?_
 rintro e W2 ⟨rfl, hb2⟩
 have hx2 := HX1.out.below hb2
 have x2 := hx2.xb
 have HX2 := Aside0.mk (hx2.put #[.string s, .slice Ab nf cb, .int .i64 (r1.1 : Int), .slice Ao o.length co, .int .i64 m, .int .i64 r1.2.1])
 have y2 := HX2.out.xb
 clear HX1 x1 e1 f1 hb2 hx2 KB1
 go_wp2_with (first | (refine wpList_store_rowTo rfl 53 _ _ rfl rfl x #[.string s, .slice Ab nf cb, .int .i64 (r1.1 : Int), .slice Ao o.length co, .int .i64 m, .int .i64 r1.2.1] rfl rfl 53 _ x2 infoState rfl (st_one _ _ _ _ _ _ _ _ _ _) ?_) | (refine wpList_load_row rfl 53 _ rfl x rfl 53 _ (0, 0) _ y2 Tryz.underlying53 rfl infoState ?_))
 refine (KB2.out _).mono ?_
 rintro e W3 ⟨rfl, hb3⟩
 have hx3 := HX2.out.below hb3
 have x3 := hx3.xb
 have HX3 := Aside0.mk (hx3.put #[.string s, .slice Ab nf cb, .int .i64 (r2.1 : Int), .slice Ao o.length co, .int .i64 m, .int .i64 r2.2.1])
 have y3 := HX3.out.xb
 clear HX2 x2 y2 hb3 hx3 KB2
 go_wp2_with (first | (refine wpList_store_rowTo rfl 53 _ _ rfl rfl x #[.string s, .slice Ab nf cb, .int .i64 (r2.1 : Int), .slice Ao o.length co, .int .i64 m, .int .i64 r2.2.1] rfl rfl 53 _ x3 infoState rfl (st_one _ _ _ _ _ _ _ _ _ _) ?_) | (refine wpList_load_row rfl 53 _ rfl x rfl 53 _ (0, 0) _ y3 Tryz.underlying53 rfl infoState ?_))
 refine (KF.out _).mono ?_
 rintro e W4 ⟨rfl, hb4⟩
 have hx4 := HX3.out.below hb4
 have x4 := hx4.xb
 have HX4 := Aside0.mk (hx4.put #[.string s, .slice Ab nf cb, .int .i64 (r2.1 : Int), .slice Ao o.length co, .int .i64 m, .int .i64 c3])
 have y4 := HX4.out.xb
 have z4 := HX4.out.zb
 clear HX3 x3 y3 hb4 hx4 KF
 have d4 := blk_cell y4 5
 by_cases hc0 : c3 = 0
 ·subst hc0
  have q0 : ((0 : Int) != 0) = false := rfl
  have HRES1 := HRES.out
  rw [if_neg (by simp)] at HRES1
  obtain ⟨n1, hn1⟩ := Int.eq_ofNat_of_zero_le g1.2.2.1
  rw [hn1, Int.toNat_natCast] at HRES1
  rw [hn1]
  obtain ⟨hy1, hy2, hy3⟩ := rbytes_f s hs r2.1 g2.1 n1 (by omega)
  obtain ⟨⟨tx, q, ey⟩, hr⟩ : ∃ r, r = rbytes s r2.1 n1 := ⟨_, rfl⟩
  rw [← hr] at hy1 hy2 hy3 HRES1
  dsimp only at hy1 hy2 hy3 HRES1
  have KY := Aside0.mk (fun W => binderyref08_Bytes.calls s (r2.1 : Int) (n1 : Int) _ _ _ W hy1)
  obtain ⟨c6, hc6⟩ : ∃ c, c = rfail ey (decide (m < ((o ++ bytesOf tx).length : Int))) 7 := ⟨_, rfl⟩
  rw [← hc6] at HRES1
  have HRES := Aside0.mk HRES1
  have HC6 := Aside0.mk hc6
  clear HRES1 hy1 hr hn1 hc6 d4
  have d4 : (World.setRow W4 x #[.string s, .slice Ab nf cb, .int .i64 (r2.1 : Int), .slice Ao o.length co, .int .i64 m, .int .i64 0]).cell? ⟨x, 5, none⟩ = some (.int .i64 0) := blk_cell y4 5
  have d5 : (World.setRow W4 x #[.string s, .slice Ab nf cb, .int .i64 (r2.1 : Int), .slice Ao o.length co, .int .i64 m, .int .i64 0]).cell? ⟨x, 0, none⟩ = some (.string s) := blk_cell y4 0
  have d6 : (World.setRow W4 x #[.string s, .slice Ab nf cb, .int .i64 (r2.1 : Int), .slice Ao o.length co, .int .i64 m, .int .i64 0]).cell? ⟨x, 2, none⟩ = some (.int .i64 (r2.1 : Int)) := blk_cell y4 2
  go_wp2_with (refine wpList_store_rowTo rfl 53 _ _ rfl rfl x #[.string s, .slice Ab nf cb, .int .i64 (r2.1 : Int), .slice Ao o.length co, .int .i64 m, .int .i64 0] rfl rfl 53 _ x4 infoState rfl (st_one _ _ _ _ _ _ _ _ _ _) ?_)
  refine (KY.out _).mono ?_
  rintro e W5 ⟨rfl, hd5⟩
  have hx5 := HX4.out.drawn hd5
  have k0 : W5.cell? ⟨x, 2, none⟩ = some (.int .i64 (r2.1 : Int)) := blk_cell hx5.xb 2
  have k1 : W5.cell? ⟨x, 5, none⟩ = some (.int .i64 0) := blk_cell hx5.xb 5
  have k2 := blk_frozen hx5.xb 2
  have k3 := blk_frozen hx5.xb 5
  have HX6 := Aside0.mk ((hx5.set 2 (.int .i64 (q : Int))).set 5 (.int .i64 ey))
  clear HX4 KY d4 d5 d6 x4 y4 z4 hd5 hx5
  go_upto_region 9 with fail
  generalize World.setCell (World.setCell W5 _ _) _ _ = W6 at HX6 ⊢
  clear k0 k1 k2 k3
  have HX6' : Aside0 (Bx w W6 N0 x z #[.string s, .slice Ab nf cb, .int .i64 (q : Int), .slice Ao o.length co, .int .i64 m, .int .i64 ey]) := ⟨HX6.out⟩
  clear HX6
  have HR6 := Aside0.mk (HX6'.out.row HO0.out)
  have hB6 : B ≤ W6.heap.size := Nat.le_trans hB HX6'.out.fr.size
  have d6 : W6.cell? ⟨x, 3, none⟩ = some (.slice Ao o.length co) := blk_cell HX6'.out.xb 3
  have hl6 : o.length + tx.size ≤ 140737488355328 := by omega
  have HX7 := Aside0.mk (HX6'.out.mono (S' := S8 B w) (fun _ _ h => h.elim))
  clear HX6'
  go_upto_region 10 with (refine appstr_wp B rfl _ _ 44 9 5 rfl Tryz.underlying44 Tryz.underlying9 infoU8 (.slice Ao o.length co) o tx rfl rfl HR6.out hB6 hl6 ?_; intro v8 w8 hap; obtain ⟨A8, n8, k8, hv8, hn8⟩ := hap.row.shape; subst hv8; have hb8 := HX7.out.app HR6.out hap; have f8 := blk_frozen hb8.xb 3; have d8 : w8.cell? ⟨x, 3, none⟩ = some (.slice Ao o.length co) := blk_cell hb8.xb 3)
  have hx9 := hb8.set 3 (.slice A8 n8 k8)
  have hr9 := hap.row.set hb8.xb (by decide) 3 (.slice A8 n8 k8)
  have HC := HC6.out
  rw [← hn8.out] at HC
  clear hap hb8 f8 d8 HX7 HR6 hB6 d6 hl6 HC6
  generalize World.setCell w8 _ _ = W9 at hx9 hr9 ⊢
  have HX9 : Aside0 (Bx w W9 (S8 B w) x z #[.string s, .slice Ab nf cb, .int .i64 (q : Int), .slice A8 n8 k8, .int .i64 m, .int .i64 ey] ∧ Row W9 B 5 .u8 (.slice A8 n8 k8) (o ++ bytesOf tx)) := ⟨hx9, hr9⟩
  clear hx9 hr9
  have x9 := HX9.out.1.xb
  have d9 : W9.cell? ⟨x, 3, none⟩ = some (.slice A8 n8 k8) := blk_cell x9 3
  have e9 : W9.cell? ⟨x, 4, none⟩ = some (.int .i64 m) := blk_cell x9 4
  have KF := Aside0.mk (fun W => rfail_calls W s Ab A8 nf cb n8 k8 q m ey 7 (decide (m < (n8 : Int))))
  rw [← HC] at KF
  clear HC
  go_wp2_with (refine wpList_load_row rfl 53 _ rfl x rfl 53 _ (0, 0) _ x9 Tryz.underlying53 rfl infoState ?_)
  refine (KF.out _).mono ?_
  rintro e WA ⟨rfl, hbA⟩
  have HXA := Aside0.mk (And.intro (HX9.out.1.below hbA) (HX9.out.2.below hbA))
  have zA := HXA.out.1.zb
  have HZ := HXA.out.1.out #[.string s, .slice Ab nf cb, .int .i64 (q : Int), .slice A8 n8 k8, .int .i64 m, .int .i64 c6]
  clear HX9 x9 d9 e9 hbA KF
  go_wp2_with (refine wpList_store_rowTo rfl 53 _ _ rfl rfl z #[.string s, .slice Ab nf cb, .int .i64 (q : Int), .slice A8 n8 k8, .int .i64 m, .int .i64 c6] rfl rfl 53 _ zA infoState rfl (st_one _ _ _ _ _ _ _ _ _ _) ?_)
  exact bodyPost_ret (results_cell_row Tryz.results29 _ _ z 53 #[.string s, .slice Ab nf cb, .int .i64 (q : Int), .slice A8 n8 k8, .int .i64 m, .int .i64 c6] (0, 0) _ rfl HZ.1 Tryz.underlying53 rfl infoState) rfl ⟨A8, k8, by rw [HRES.out, hn8.out], by rw [HRES.out]; have h := HXA.out.1.ans HXA.out.2 #[.string s, .slice Ab nf cb, .int .i64 (q : Int), .slice A8 n8 k8, .int .i64 m, .int .i64 c6]; rw [hn8.out] at h ⊢; exact h, HZ.2⟩
 ·have q0 : (c3 != 0) = true := bne_iff_ne.2 hc0
  have HRES1 := HRES.out
  rw [if_pos hc0] at HRES1
  subst HRES1
  have HZ := HX4.out.out #[.string s, .slice Ab nf cb, .int .i64 (r2.1 : Int), .slice Ao o.length co, .int .i64 m, .int .i64 c3]
  go_wp2_with (first | (refine wpList_store_rowTo rfl 53 _ _ rfl rfl x #[.string s, .slice Ab nf cb, .int .i64 (r2.1 : Int), .slice Ao o.length co, .int .i64 m, .int .i64 c3] rfl rfl 53 _ x4 infoState rfl (st_one _ _ _ _ _ _ _ _ _ _) ?_) | (refine wpList_load_row rfl 53 _ rfl x rfl 53 _ (0, 0) _ y4 Tryz.underlying53 rfl infoState ?_) | (refine wpList_store_rowTo rfl 53 _ _ rfl rfl z #[.string s, .slice Ab nf cb, .int .i64 (r2.1 : Int), .slice Ao o.length co, .int .i64 m, .int .i64 c3] rfl rfl 53 _ z4 infoState rfl (st_one _ _ _ _ _ _ _ _ _ _) ?_))
  exact bodyPost_ret (results_cell_row Tryz.results29 _ _ z 53 #[.string s, .slice Ab nf cb, .int .i64 (r2.1 : Int), .slice Ao o.length co, .int .i64 m, .int .i64 c3] (0, 0) _ rfl HZ.1 Tryz.underlying53 rfl infoState) rfl ⟨Ao, co, rfl, HX4.out.ans (HX4.out.row HO0.out) _, HZ.2.mono (fun _ _ h => h.elim)⟩
end Go.Proofs.YtbgdadehjnifeaaGreat.Hand
