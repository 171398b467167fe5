/- The document's inflate: heads; walked by hand. -/
import Derived.Test.YtbgdadehjnifeaaGreatRef10
namespace Go.Proofs.YtbgdadehjnifeaaGreat.Hand
open Go.RowKit Go.Proofs.YtbgdadehjnifeaaGreatW.PrintWords Go.Proofs.YtbgdadehjnifeaaGreatW.PrintLast Go.Proofs.YtbgdadehjnifeaaGreatW.PrintMore Go.Proofs.YtbgdadehjnifeaaGreat.Num Go.Proofs.YtbgdadehjnifeaaGreat.Bits Go.Proofs.YtbgdadehjnifeaaGreat.P08 Go.Proofs.YtbgdadehjnifeaaGreat.P09r Go.Proofs.YtbgdadehjnifeaaGreat.P10n
set_option linter.unusedVariables false
set_option linter.unusedSimpArgs false
def orderI : List Int := [16, 17, 18, 0, 8, 7, 9, 6, 10, 5, 11, 4, 12, 3, 13, 2, 14, 1, 15]
theorem orderI_at : ∀ i : Nat, i < 19 → orderI.getD i 0 = ((orderT.getD i 0 : Nat) : Int) ∧ orderT.getD i 0 < 19 := by decide
def rheadsL (s : ByteArray) (many : Nat) : Nat → Nat → Nat → Int → List Int → Nat × Int × List Int
 | 0, _, p, c, l => (p, c, l)
 | j + 1, i, p, c, l => if i < many then (let b := rbits s p c 3; rheadsL s many j (i + 1) b.1 b.2.1 (l.set (orderT.getD i 0) b.2.2)) else (p, c, l)
def rheads (s : ByteArray) (many p : Nat) : Nat × Int × List Int := rheadsL s many 19 0 p 0 (List.replicate 19 0)
theorem rorder_calls (w : World) : Calls Tryz.prog 82 #[] w fun e w' => ∃ (g k : Nat), e = .returned (.slice (some ⟨g, 0, none⟩) 19 k) ∧ Row w' w.heap.size 3 .i64 (.slice (some ⟨g, 0, none⟩) 19 k) orderI ∧ Below w.heap.size w w' := by
 refine (binderyref10_Order.calls orderI w rfl).mono fun e w' ⟨v, h1, h2, h3⟩ => ?_
 have h4 : Row w' w.heap.size 3 .i64 v orderI := Kd.own_of_R h2
 rcases h4.2 with ⟨hv, hn⟩ | ⟨g, cap, cur, hv, _⟩
 ·cases hn
 ·subst hv
  exact ⟨g, cap, h1, h4, h3⟩
theorem Row.putI {W : World} {B x : Nat} {v : Value} {o : List Int} {cs : Array Value} (h : Row W B 3 .i64 v o) (hx : W.heap[x]? = some (.cells cs 53 (0, 0))) (cs' : Array Value) : Row (W.setRow x cs') B 3 .i64 v o :=
 h.fr (fr_setRow W x cs') (fun j hj => h.ne_blk hx (by decide) j hj)
theorem Bx.farI {w W : World} {S : Nat → Prop} {x z g n k b : Nat} {cs : Array Value} {l : List Int} (h : Bx w W S x z cs) (hr : Row W b 3 .i64 (.slice (some ⟨g, 0, none⟩) n k) l) (hw : w.heap.size ≤ g) (o : Nat) (u : Value) : Bx w (W.setCell ⟨g, o, none⟩ u) S x z cs := by
 have hx := hr.ne_blk h.xb (by decide) g rfl
 have hz := hr.ne_blk h.zb (by decide) g rfl
 exact ⟨blk_far h.xb (p := ⟨g, o, none⟩) (Ne.symm hx) u, blk_far h.zb (p := ⟨g, o, none⟩) (Ne.symm hz) u, h.fr.setCell (p := ⟨g, o, none⟩) (fun hk => absurd hk (by show ¬ g < _; omega)) u, h.xw, h.zw, h.ne⟩
set_option maxRecDepth 100000 in
set_option maxHeartbeats 4000000 in
theorem rheads_calls (w : World) (s : ByteArray) (Ab Ao : Option Addr) (nf cb no co : Nat) (p many : Nat) (m : Int) (hs : s.size ≤ 1000000) (hp : p ≤ 8 * s.size) (hm : many ≤ 100) :
  Calls Tryz.prog 49 #[.agg #[.string s, .slice Ab nf cb, .int .i64 (p : Int), .slice Ao no co, .int .i64 m, .int .i64 0], .int .i64 (many : Int)] w fun e w' => ∃ (A : Option Addr) (k : Nat), e = .returned (.tuple #[.agg #[.string s, .slice Ab nf cb, .int .i64 ((rheads s many p).1 : Int), .slice Ao no co, .int .i64 m, .int .i64 (rheads s many p).2.1], .slice A 19 k]) ∧ RdI w' A k (rheads s many p).2.2 ∧ (rheads s many p).2.2.length = 19 ∧ Below w.heap.size w w' := by
 obtain ⟨res, hres⟩ : ∃ r, r = rheads s many p := ⟨_, rfl⟩
 rw [← hres]
 unfold rheads at hres
 have HRES := Aside0.mk hres
 have hx0 := Bx.new w N0 #[.string s, .slice Ab nf cb, .int .i64 (p : Int), .slice Ao no co, .int .i64 m, .int .i64 0]
 obtain ⟨x, hx⟩ : ∃ x, x = w.heap.size := ⟨_, rfl⟩
 obtain ⟨z, hz⟩ : ∃ z, z = w.heap.size + 1 := ⟨_, rfl⟩
 have kmk : ∀ W : World, (Instr.makeSlice 50 (.int .i64 19) (.int .i64 19)).run Tryz.prog W = .ok (.slice (some ⟨W.heap.size, 0, none⟩) 19 19) (W.alloc (.cells (madeCells #[.int .i64 0] 19) 3)) := fun W => print_make (P := Tryz.prog) 50 3 .i64 8 Tryz.underlying50 infoI64 (by decide) 19 (by omega) W
 clear hres
 go_enter Tryz.func49, Tryz.ntmps49
 go_upto_region 1 with fail
 rw [← hz, ← hx] at hx0 ⊢
 have hbw : Below w.heap.size w ((w.alloc (.cells #[.string s, .slice Ab nf cb, .int .i64 (p : Int), .slice Ao no co, .int .i64 m, .int .i64 0] 53)).alloc (.cells #[.string ⟨#[]⟩, .slice none 0 0, .int .i64 0, .slice none 0 0, .int .i64 0, .int .i64 0] 53)) := below_alloc (below_alloc (Below.refl _ _) _) _
 generalize World.alloc (World.alloc w _) _ = W0 at hx0 hbw ⊢
 have HX0 : Aside0 (Bx w W0 N0 x z #[.string s, .slice Ab nf cb, .int .i64 (p : Int), .slice Ao no co, .int .i64 m, .int .i64 0]) := ⟨hx0⟩
 have hW0 := hbw.size
 clear hx0 hx hz hbw
 go_wp2_with fail
 have hl0 : Row (W0.alloc (.cells (madeCells #[.int .i64 0] 19) 3)) w.heap.size 3 .i64 (.slice (some ⟨W0.heap.size, 0, none⟩) 19 19) (List.replicate 19 0) := Row.made W0 w.heap.size 3 .i64 19 hW0 (by omega)
 have hx1 := HX0.out.below (below_alloc (Below.refl W0.heap.size W0) (.cells (madeCells #[.int .i64 0] 19) 3))
 obtain ⟨lg, hlg⟩ : ∃ g, g = W0.heap.size := ⟨_, rfl⟩
 rw [← hlg] at hl0 ⊢
 generalize World.alloc W0 _ = W1 at hl0 hx1 ⊢
 have HX1 : Aside0 (Bx w W1 N0 x z #[.string s, .slice Ab nf cb, .int .i64 (p : Int), .slice Ao no co, .int .i64 m, .int .i64 0] ∧ Row W1 w.heap.size 3 .i64 (.slice (some ⟨lg, 0, none⟩) 19 19) (List.replicate 19 0)) := ⟨hx1, hl0⟩
 clear HX0 hlg hl0 hx1 kmk
 refine (rorder_calls W1).mono ?_
 rintro e W2 ⟨og, ok, rfl, hro, hb2⟩
 have HX2 : Aside0 (Bx w W2 N0 x z #[.string s, .slice Ab nf cb, .int .i64 (p : Int), .slice Ao no co, .int .i64 m, .int .i64 0] ∧ Row W2 w.heap.size 3 .i64 (.slice (some ⟨lg, 0, none⟩) 19 19) (List.replicate 19 0) ∧ Row W2 W1.heap.size 3 .i64 (.slice (some ⟨og, 0, none⟩) 19 ok) orderI ∧ lg ≠ og) := ⟨HX1.out.1.below hb2, HX1.out.2.below hb2, hro, by have h1 := (HX1.out.2.lt lg rfl).2; have h2 := (hro.lt og rfl).1; omega⟩
 clear HX1 hro hb2
 go_wp2_with fail
 go_loopw [8] (fun v8 wr => ∃ (i p1 : Nat) (c : Int) (l : List Int), v8 = .int .i64 (i : Int) ∧ i ≤ 19 ∧ p1 ≤ 8 * s.size ∧ l.length = 19 ∧ Aside0 (Bx w wr N0 x z #[.string s, .slice Ab nf cb, .int .i64 (p1 : Int), .slice Ao no co, .int .i64 m, .int .i64 c] ∧ Row wr w.heap.size 3 .i64 (.slice (some ⟨lg, 0, none⟩) 19 19) l ∧ Row wr W1.heap.size 3 .i64 (.slice (some ⟨og, 0, none⟩) 19 ok) orderI ∧ lg ≠ og ∧ res = rheadsL s many (19 - i) i p1 c l)) (fun v8 _ => 19 - (intOf v8).toNat)
 case atStart => exact ⟨0, p, 0, List.replicate 19 0, rfl, by omega, hp, by simp, ⟨HX2.out.1, HX2.out.2.1, HX2.out.2.2.1, HX2.out.2.2.2, HRES.out⟩⟩
 case round =>
  clear HX2 HRES
  obtain ⟨i, p1, c, l, rfl, hi, hp1, hl, HW⟩ := hrel
  have xw := HW.out.1.xb
  have zw := HW.out.1.zb
  have fin : res = (p1, c, l) → Aside0 (_ ∧ _ ∧ _) := fun h => ⟨HW.out.1.out #[.string s, .slice Ab nf cb, .int .i64 (p1 : Int), .slice Ao no co, .int .i64 m, .int .i64 c], h, HW.out.2.1.putI zw #[.string s, .slice Ab nf cb, .int .i64 (p1 : Int), .slice Ao no co, .int .i64 m, .int .i64 c]⟩
  by_cases hlt : i < many
  ·by_cases h19 : i < 19
   ·have s1 : decide ((i : Int) < (many : Int)) = true := decide_eq_true (by omega)
    have s1n : decide (i < many) = true := decide_eq_true hlt
    have s2 : decide ((i : Int) < 19) = true := decide_eq_true (by omega)
    have s2n : decide (i < 19) = true := decide_eq_true h19
    have hrec := HW.out.2.2.2.2
    rw [show 19 - i = (19 - (i + 1)) + 1 by omega, rheadsL, if_pos hlt] at hrec
    dsimp only at hrec
    have g := rbits_range s p1 c 3 hp1
    have KB := Aside0.mk (rbits_calls wr s Ab Ao nf cb no co p1 3 m c hs hp1 (by omega))
    obtain ⟨⟨q, c1, n⟩, hr⟩ : ∃ r, r = rbits s p1 c 3 := ⟨_, rfl⟩
    rw [← hr] at g KB hrec
    dsimp only at g KB hrec
    obtain ⟨hoi, hol⟩ := orderI_at i h19
    obtain ⟨oi, hoi2⟩ : ∃ t, t = orderT.getD i 0 := ⟨_, rfl⟩
    rw [← hoi2] at hoi hol hrec
    have HREC := Aside0.mk hrec
    have HOI := Aside0.mk hoi
    clear hrec hr hoi hoi2 fin
    go_wp2_with (refine wpList_load_row rfl 53 _ rfl x rfl 53 _ (0, 0) _ xw Tryz.underlying53 rfl infoState ?_)
    refine KB.out.mono ?_
    rintro e W3 ⟨rfl, hb3⟩
    have hb4 := hb3.trans (below_alloc (Below.refl W3.heap.size W3) (.cells #[.string s, .slice Ab nf cb, .int .i64 (q : Int), .slice Ao no co, .int .i64 m, .int .i64 c1] 53) |>.mono hb3.size)
    have hx4 := HW.out.1.below hb4
    have x4 := hx4.xb
    have HW4 : Aside0 (Bx w _ N0 x z #[.string s, .slice Ab nf cb, .int .i64 (q : Int), .slice Ao no co, .int .i64 m, .int .i64 c1] ∧ Row _ w.heap.size 3 .i64 (.slice (some ⟨lg, 0, none⟩) 19 19) l ∧ Row _ W1.heap.size 3 .i64 (.slice (some ⟨og, 0, none⟩) 19 ok) orderI ∧ lg ≠ og) := ⟨hx4.put #[.string s, .slice Ab nf cb, .int .i64 (q : Int), .slice Ao no co, .int .i64 m, .int .i64 c1], (HW.out.2.1.below hb4).putI x4 #[.string s, .slice Ab nf cb, .int .i64 (q : Int), .slice Ao no co, .int .i64 m, .int .i64 c1], (HW.out.2.2.1.below hb4).putI x4 #[.string s, .slice Ab nf cb, .int .i64 (q : Int), .slice Ao no co, .int .i64 m, .int .i64 c1], HW.out.2.2.2.1⟩
    clear KB hb3 hb4 HW xw zw hx4
    go_upto_region 8 with (refine wpList_store_rowTo rfl 53 _ _ rfl rfl x #[.string s, .slice Ab nf cb, .int .i64 (q : Int), .slice Ao no co, .int .i64 m, .int .i64 c1] rfl rfl 53 _ x4 infoState rfl (st_one _ _ _ _ _ _ _ _ _ _) ?_)
    generalize World.setRow (World.alloc W3 _) x _ = W5 at HW4 ⊢
    clear x4
    have d1 : W5.cell? ⟨og, i, none⟩ = some (.int .i64 (oi : Int)) := by have := (HW4.out.2.2.1.at_ i (show i < orderI.length from h19)).1; rwa [HOI.out] at this
    have d2 := (HW4.out.2.1.at_ oi (by omega)).1
    have d3 := (HW4.out.2.1.at_ oi (by omega)).2
    have hi0 : (0 : Int) ≤ (i : Int) ∧ (i : Int) < 19 := by omega
    have ho0 : (0 : Int) ≤ (oi : Int) ∧ (oi : Int) < 19 := by omega
    have HN : Aside0 (_ ∧ _ ∧ _ ∧ lg ≠ og ∧ res = rheadsL s many (19 - (i + 1)) (i + 1) q c1 (l.set oi n)) := ⟨HW4.out.1.farI HW4.out.2.1 (HW4.out.2.1.lt lg rfl).1 oi (.int .i64 n), HW4.out.2.1.store oi n, HW4.out.2.2.1.fr ((Fr.refl W5 _).set1 (g := lg) oi (.int .i64 n)) (fun j hj he => HW4.out.2.2.2 (((Option.some.inj hj).trans he).symm)), HW4.out.2.2.2, HREC.out⟩
    clear HREC HOI
    go_wp2_with fail
    go_roundw
    case rel => exact ⟨i + 1, q, c1, l.set oi n, by go_num, by omega, g.1, by rw [List.length_set]; exact hl, ⟨HN.out.1, HN.out.2.1, HN.out.2.2.1, HN.out.2.2.2.1, HN.out.2.2.2.2⟩⟩
    case measure => simp [intOf]; omega
   ·have s1 : decide ((i : Int) < (many : Int)) = true := decide_eq_true (by omega)
    have s1n : decide (i < many) = true := decide_eq_true hlt
    obtain rfl : i = 19 := by omega
    have s2 : decide (((19 : Nat) : Int) < 19) = false := by decide
    have hrec := HW.out.2.2.2.2
    rw [Nat.sub_self, rheadsL] at hrec
    have HF := fin hrec
    have HZ := HF.out.1
    clear hrec fin
    go_wp2_with (first | (refine wpList_load_row rfl 53 _ rfl x rfl 53 _ (0, 0) _ xw Tryz.underlying53 rfl infoState ?_) | (refine wpList_store_rowTo rfl 53 _ _ rfl rfl z #[.string s, .slice Ab nf cb, .int .i64 (p1 : Int), .slice Ao no co, .int .i64 m, .int .i64 c] rfl rfl 53 _ zw infoState rfl (st_one _ _ _ _ _ _ _ _ _ _) ?_))
    exact bodyPost_ret (results_ct rfl _ _ z 53 #[.string s, .slice Ab nf cb, .int .i64 (p1 : Int), .slice Ao no co, .int .i64 m, .int .i64 c] (0, 0) _ rfl HZ.1 Tryz.underlying53 rfl infoState) rfl ⟨_, 19, by rw [HF.out.2.1]; rfl, by rw [HF.out.2.1]; exact RdI.row HF.out.2.2, by rw [HF.out.2.1]; exact hl, HZ.2.below (fun _ h => h.elim) (Nat.le_refl _)⟩
  ·have s1 : decide ((i : Int) < (many : Int)) = false := decide_eq_false (by omega)
   have s1n : decide (i < many) = false := decide_eq_false hlt
   have hrec : res = (p1, c, l) := by
    have h := HW.out.2.2.2.2
    cases hj : 19 - i with
    | zero => rw [hj, rheadsL] at h; exact h
    | succ j => rw [hj, rheadsL, if_neg hlt] at h; exact h
   have HF := fin hrec
   have HZ := HF.out.1
   clear hrec fin
   go_wp2_with (first | (refine wpList_load_row rfl 53 _ rfl x rfl 53 _ (0, 0) _ xw Tryz.underlying53 rfl infoState ?_) | (refine wpList_store_rowTo rfl 53 _ _ rfl rfl z #[.string s, .slice Ab nf cb, .int .i64 (p1 : Int), .slice Ao no co, .int .i64 m, .int .i64 c] rfl rfl 53 _ zw infoState rfl (st_one _ _ _ _ _ _ _ _ _ _) ?_))
   exact bodyPost_ret (results_ct rfl _ _ z 53 #[.string s, .slice Ab nf cb, .int .i64 (p1 : Int), .slice Ao no co, .int .i64 m, .int .i64 c] (0, 0) _ rfl HZ.1 Tryz.underlying53 rfl infoState) rfl ⟨_, 19, by rw [HF.out.2.1]; rfl, by rw [HF.out.2.1]; exact RdI.row HF.out.2.2, by rw [HF.out.2.1]; exact hl, HZ.2.below (fun _ h => h.elim) (Nat.le_refl _)⟩
end Go.Proofs.YtbgdadehjnifeaaGreat.Hand
