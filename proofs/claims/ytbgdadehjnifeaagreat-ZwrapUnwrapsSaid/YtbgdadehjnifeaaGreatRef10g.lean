/- The document's inflate: row; walked by hand. -/
import Derived.Test.YtbgdadehjnifeaaGreatRef10c
import Derived.Test.YtbgdadehjnifeaaGreatRef10f
namespace Go.Proofs.YtbgdadehjnifeaaGreat.Hand
open Go.RowKit Go.Proofs.YtbgdadehjnifeaaGreatW.PrintWords Go.Proofs.YtbgdadehjnifeaaGreatW.PrintLast Go.Proofs.YtbgdadehjnifeaaGreatW.PrintMore Go.Proofs.YtbgdadehjnifeaaGreat.Num Go.Proofs.YtbgdadehjnifeaaGreat.Bits Go.Proofs.YtbgdadehjnifeaaGreat.P08 Go.Proofs.YtbgdadehjnifeaaGreat.P09r Go.Proofs.YtbgdadehjnifeaaGreat.P10n
set_option linter.unusedVariables false
set_option linter.unusedSimpArgs false
def rsw (s : ByteArray) (row : List Int) (q : Nat) (c1 n : Int) : Nat × Int × Int × Int :=
  if n = 16 then (let g := rbits s q (rfail c1 (decide (row.length = 0)) 4) 2; (g.1, g.2.1, g.2.2 + 3, if row.length = 0 then n else row.getD (row.length - 1) 0))
  else if n = 17 then (let g := rbits s q c1 3; (g.1, g.2.1, g.2.2 + 3, 0))
  else if n = 18 then (let g := rbits s q c1 7; (g.1, g.2.1, g.2.2 + 11, 0))
  else (q, c1, 1, n)
def rrowL (s : ByteArray) (l : List Int) (many : Nat) : Nat → Nat → List Int → Nat × Int × List Int
  | 0, p, row => (p, 99, row)
  | k + 1, p, row => if row.length < many then
      (let b := rsym s p 0 l
       let t := rsw s row b.1 b.2.1 b.2.2
       let c3 := rfail t.2.1 (decide ((many : Int) < (row.length : Int) + t.2.2.1)) 4
       if c3 = 0 then rrowL s l many k t.1 (row ++ List.replicate t.2.2.1.toNat t.2.2.2) else (t.1, c3, row))
    else (p, 0, row)
theorem rsw_range (s : ByteArray) (row : List Int) (q : Nat) (c1 n : Int) (hq : q ≤ 8 * s.size) : (rsw s row q c1 n).1 ≤ 8 * s.size ∧ 1 ≤ (rsw s row q c1 n).2.2.1 ∧ (rsw s row q c1 n).2.2.1 ≤ 200 := by
  unfold rsw
  split
  · have h := rbits_range s q (rfail c1 (decide (row.length = 0)) 4) 2 hq
    simp only [Int.reducePow] at h
    exact ⟨h.1, by dsimp only; omega, by dsimp only; omega⟩
  · split
    · have h := rbits_range s q c1 3 hq
      simp only [Int.reducePow] at h
      exact ⟨h.1, by dsimp only; omega, by dsimp only; omega⟩
    · split
      · have h := rbits_range s q c1 7 hq
        simp only [Int.reducePow] at h
        exact ⟨h.1, by dsimp only; omega, by dsimp only; omega⟩
      · exact ⟨hq, by dsimp only; omega, by dsimp only; omega⟩
theorem RdI.frX {w w1 : World} {x : Nat} {A : Option Addr} {c : Nat} {xs : List Int} {cs : Array Value} (h : RdI w A c xs) (hx : w.heap[x]? = some (.cells cs 53 (0, 0))) (hf : Fr w w1 (· = x)) : RdI w1 A c xs :=
  h.fr hf (fun k hk cs fr hb => by
    subst hk
    rw [hb] at hx
    injection hx with hx
    injection hx with _ hx
    exact absurd hx (by decide))
theorem Fr.x_ {w w1 w2 : World} {x : Nat} (h : Fr w w1 (· = x)) (k : Below w1.heap.size w1 w2) : Fr w w2 (· = x) := h.then_ (Fr.of_below k _)
theorem Bx.appI {w W w1 : World} {x z b : Nat} {cs : Array Value} {v v' : Value} {o o' : List Int} {ob : Obj} (h : Bx w W N0 x z cs) (hr : Row W b 3 .i64 v o) (hap : App (W.alloc ob) w1 b 3 .i64 v v' o') (hb : w.heap.size ≤ b) (hbW : b ≤ W.heap.size) : Bx w w1 N0 x z cs ∧ Below b W w1 := by
  have hB := hap.below1 hr hbW
  exact ⟨⟨hap.blk1 hr h.xb (by decide), hap.blk1 hr h.zb (by decide), h.fr.trans (S2 := fun k => b ≤ k) ⟨hB.os, hB.tape, hB.output, hB.size, fun k _ hn => hB.block k (by omega)⟩ (fun k hk hs => absurd hk (by omega)), h.xw, h.zw, h.ne⟩, hB⟩
set_option maxRecDepth 100000 in
set_option maxHeartbeats 4000000 in
theorem rrow_calls (w : World) (s : ByteArray) (Ab Ao Al : Option Addr) (no co cb cl : Nat) (l : List Int) (p many : Nat) (m : Int) (hs : s.size ≤ 1000000) (hp : p ≤ 8 * s.size) (hm : mayF l = 0) (hmany : many ≤ 400) (hb : RdI w Ab cb (flat (bytesOf s))) (hl : RdI w Al cl l) (K : Nat) (hK : many < K) :
    Calls Tryz.prog 51 #[.agg #[.string s, .slice Ab (flat (bytesOf s)).length cb, .int .i64 (p : Int), .slice Ao no co, .int .i64 m, .int .i64 0], .slice Al l.length cl, .int .i64 (many : Int)] w fun e w' =>
      ∃ (A : Option Addr) (k : Nat), e = .returned (.tuple #[.agg #[.string s, .slice Ab (flat (bytesOf s)).length cb, .int .i64 ((rrowL s l many K p []).1 : Int), .slice Ao no co, .int .i64 m, .int .i64 (rrowL s l many K p []).2.1], .slice A (rrowL s l many K p []).2.2.length k]) ∧ Row w' w.heap.size 3 .i64 (.slice A (rrowL s l many K p []).2.2.length k) (rrowL s l many K p []).2.2 ∧ Below w.heap.size w w' := by
  obtain ⟨res, hres⟩ : ∃ r, r = rrowL s l many K p [] := ⟨_, rfl⟩
  rw [← hres]
  have HRES := Aside0.mk hres
  obtain ⟨nf, hnf⟩ : ∃ n, n = (flat (bytesOf s)).length := ⟨_, rfl⟩
  have HNF := Aside0.mk hnf
  rw [← hnf]
  have hx0 := Bx.new w N0 #[.string s, .slice Ab nf cb, .int .i64 (p : Int), .slice Ao no co, .int .i64 m, .int .i64 0]
  have HL : Aside0 (∀ W, Below w.heap.size w W → RdI W Ab cb (flat (bytesOf s)) ∧ RdI W Al cl l) := ⟨fun W h => ⟨hb.below h, hl.below h⟩⟩
  have HM := Aside0.mk hm
  have hll := (may_zero hm).1
  obtain ⟨x, hx⟩ : ∃ x, x = w.heap.size := ⟨_, rfl⟩
  obtain ⟨z, hz⟩ : ∃ z, z = w.heap.size + 1 := ⟨_, rfl⟩
  clear hres hb hl hnf hm
  go_enter Tryz.func51, Tryz.ntmps51
  go_upto_region 1 with fail
  have hbw : Below w.heap.size w ((w.alloc (.cells #[.string s, .slice Ab nf cb, .int .i64 (p : Int), .slice Ao no co, .int .i64 m, .int .i64 0] 53)).alloc (.cells #[.string ⟨#[]⟩, .slice none 0 0, .int .i64 0, .slice none 0 0, .int .i64 0, .int .i64 0] 53)) := below_alloc (below_alloc (Below.refl _ _) _) _
  rw [← hz, ← hx] at hx0 ⊢
  generalize World.alloc (World.alloc w _) _ = W0 at hx0 hbw ⊢
  have HX0 : Aside0 (Bx w W0 N0 x z #[.string s, .slice Ab nf cb, .int .i64 (p : Int), .slice Ao no co, .int .i64 m, .int .i64 0] ∧ Below w.heap.size w W0) := ⟨hx0, hbw⟩
  clear hx0 hx hz hbw
  go_wp2_with fail
  refine (rcodes_calls Al cl l W0 (HL.out W0 HX0.out.2).2 (by omega)).mono ?_
  rintro e W1 ⟨A1, c1, rfl, hr1, hb1⟩
  have HX1 : Aside0 (Bx w W1 N0 x z #[.string s, .slice Ab nf cb, .int .i64 (p : Int), .slice Ao no co, .int .i64 m, .int .i64 0] ∧ Below w.heap.size w W1 ∧ RdI W1 A1 c1 (codesF l)) := ⟨HX0.out.1.below hb1, HX0.out.2.trans (hb1.mono HX0.out.2.size), hr1⟩
  clear HX0 hr1 hb1
  have h2 := HL.out W1 HX1.out.2.1
  have xb1 := HX1.out.1.xb
  have HR : Aside0 (∀ W, Fr W1 W (· = x) → RdI W Ab cb (flat (bytesOf s)) ∧ RdI W Al cl l ∧ RdI W A1 c1 (codesF l)) := ⟨fun W h => ⟨h2.1.frX xb1 h, h2.2.frX xb1 h, HX1.out.2.2.frX xb1 h⟩⟩
  clear h2 xb1
  go_wp2_with fail
  have HS0 : Aside0 (Bx w (W1.alloc (.cells #[] 3)) N0 x z #[.string s, .slice Ab nf cb, .int .i64 (p : Int), .slice Ao no co, .int .i64 m, .int .i64 0] ∧ Row (W1.alloc (.cells #[] 3)) W1.heap.size 3 .i64 (.slice (some ⟨W1.heap.size, 0, none⟩) 0 0) [] ∧ Fr W1 (W1.alloc (.cells #[] 3)) (· = x)) := ⟨HX1.out.1.below (below_alloc (Below.refl _ _) _), Row.empty W1 W1.heap.size 3 .i64 (Nat.le_refl _), Fr.of_below (below_alloc (Below.refl _ _) _) _⟩
  obtain ⟨g0, hg0⟩ : ∃ g, g = W1.heap.size := ⟨_, rfl⟩
  rw [← hg0] at HS0 ⊢
  have hBW : w.heap.size ≤ W1.heap.size := HX1.out.2.1.size
  have HG0 := Aside0.mk hg0
  clear hg0
  generalize W1.alloc _ = W2 at HS0 ⊢
  clear HX1
  go_loopg [10] K (fun kq v10 wr => ∃ (p1 : Nat) (c : Int) (row : List Int) (A : Option Addr) (n k : Nat), v10 = .slice A n k ∧ Aside0 (n = row.length) ∧ p1 ≤ 8 * s.size ∧ row.length ≤ many ∧ (c = 0 → many < row.length + kq) ∧ Aside0 (Bx w wr N0 x z #[.string s, .slice Ab nf cb, .int .i64 (p1 : Int), .slice Ao no co, .int .i64 m, .int .i64 c] ∧ Row wr g0 3 .i64 (.slice A n k) row ∧ Fr W1 wr (· = x) ∧ res = if c = 0 then rrowL s l many kq p1 row else (p1, c, row)))
  case atStart => exact ⟨p, 0, [], _, 0, 0, rfl, ⟨rfl⟩, hp, by simp, fun _ => by simp; omega, ⟨HS0.out.1, HS0.out.2.1, HS0.out.2.2, HRES.out⟩⟩
  case round =>
    clear HRES HS0
    obtain ⟨p1, c, row, A, n, k, rfl, hn, hp1, hrl, hk, HW⟩ := hrel
    obtain rfl := hn.out
    have xw := HW.out.1.xb
    have zw := HW.out.1.zb
    have d5 : wr.cell? ⟨x, 5, none⟩ = some (.int .i64 c) := blk_cell xw 5
    have hgw : g0 ≤ wr.heap.size := by rw [HG0.out]; exact HW.out.2.2.1.size
    by_cases hlt : row.length < many
    · have s1 : decide ((row.length : Int) < (many : Int)) = true := decide_eq_true (by omega)
      have s1n : decide (row.length < many) = true := decide_eq_true hlt
      by_cases hc : c = 0
      · subst hc
        have q5 : ((0 : Int) == 0) = true := rfl
        cases gk with
        | zero => exact absurd (hk rfl) (by omega)
        | succ k1 =>
          have hrec := HW.out.2.2.2
          rw [if_pos rfl, rrowL, if_pos hlt] at hrec
          dsimp only at hrec
          have hRD := HR.out wr HW.out.2.2.1
          have g := rsym_range s p1 0 l hp1
          have KS := rsymbol_calls wr s Ab Ao Al A1 cb no co cl c1 l p1 m 0 hs hp1 HM.out hRD.1 hRD.2.1 hRD.2.2
          obtain ⟨⟨q, er, d⟩, hr⟩ : ∃ r, r = rsym s p1 0 l := ⟨_, rfl⟩
          rw [← hr] at g KS hrec
          rw [← HNF.out] at KS
          dsimp only at g KS hrec
          have gw := rsw_range s row q er d g.1
          obtain ⟨D, hD⟩ := Int.eq_ofNat_of_zero_le g.2
          subst hD
          have HKS := Aside0.mk KS
          have HREC := Aside0.mk hrec
          clear KS hrec hr hRD
          go_wp2_with (refine wpList_load_row rfl 53 _ rfl x rfl 53 _ (0, 0) _ xw Tryz.underlying53 rfl infoState ?_)
          refine HKS.out.mono ?_
          rintro e W3 ⟨rfl, hb3⟩
          have hb4 := hb3.trans ((below_alloc (Below.refl W3.heap.size W3) (.cells #[.string s, .slice Ab nf cb, .int .i64 (q : Int), .slice Ao no co, .int .i64 m, .int .i64 er] 53)).mono hb3.size)
          have hx4 := HW.out.1.below hb4
          have x4 := hx4.xb
          have HW4 : Aside0 (Bx w _ N0 x z #[.string s, .slice Ab nf cb, .int .i64 (q : Int), .slice Ao no co, .int .i64 m, .int .i64 er] ∧ Row _ g0 3 .i64 (.slice A row.length k) row ∧ Fr W1 _ (· = x)) := ⟨hx4.put #[.string s, .slice Ab nf cb, .int .i64 (q : Int), .slice Ao no co, .int .i64 m, .int .i64 er], (HW.out.2.1.below hb4).putI x4 #[.string s, .slice Ab nf cb, .int .i64 (q : Int), .slice Ao no co, .int .i64 m, .int .i64 er], (HW.out.2.2.1.x_ hb4).then_ (fr_setRow _ x #[.string s, .slice Ab nf cb, .int .i64 (q : Int), .slice Ao no co, .int .i64 m, .int .i64 er])⟩
          clear HKS hb3 hb4 HW xw zw hx4 d5
          go_upto_region 6 with (refine wpList_store_rowTo rfl 53 _ _ rfl rfl x #[.string s, .slice Ab nf cb, .int .i64 (q : Int), .slice Ao no co, .int .i64 m, .int .i64 er] rfl rfl 53 _ x4 infoState rfl (st_one _ _ _ _ _ _ _ _ _ _) ?_)
          generalize World.setRow (World.alloc W3 _) x _ = W5 at HW4 ⊢
          clear x4
          obtain ⟨⟨q2, c2, tm, wt⟩, hsw⟩ : ∃ r, r = rsw s row q er (D : Int) := ⟨_, rfl⟩
          have HSW := Aside0.mk hsw
          have HREC1 := HREC.out
          rw [← hsw] at gw HREC1
          dsimp only at gw HREC1
          clear HREC hsw
          have HREC := Aside0.mk HREC1
          clear HREC1
          go_upto_block 2 with fail
          go_cut [13, 14] (fun v13 v14 wc => v13 = .int .i64 tm ∧ v14 = .int .i64 wt ∧ Aside0 (Bx w wc N0 x z #[.string s, .slice Ab nf cb, .int .i64 (q2 : Int), .slice Ao no co, .int .i64 m, .int .i64 c2] ∧ Row wc g0 3 .i64 (.slice A row.length k) row ∧ Fr W1 wc (· = x)))
          case first =>
            have x5 := HW4.out.1.xb
            have hf : ∀ (W : World), Below W5.heap.size W5 W → ∀ cs, Aside0 (Bx w (W.setRow x cs) N0 x z cs ∧ Row (W.setRow x cs) g0 3 .i64 (.slice A row.length k) row ∧ Fr W1 (W.setRow x cs) (· = x)) := fun W hb cs => ⟨(HW4.out.1.below hb).put cs, (HW4.out.2.1.below hb).putI (HW4.out.1.below hb).xb cs, (HW4.out.2.2.x_ hb).then_ (fr_setRow W x cs)⟩
            have HFF := Aside0.mk hf
            clear hf
            by_cases h16 : D = 16
            · subst h16
              have q6 : (((16 : Nat) : Int) == 16) = true := by decide
              have hs2 := HSW.out
              unfold rsw at hs2
              rw [if_pos (by decide)] at hs2
              dsimp only at hs2
              obtain ⟨c4, hc4⟩ : ∃ c, c = rfail er (decide (row.length = 0)) 4 := ⟨_, rfl⟩
              have KF := Aside0.mk (fun W => rfail_calls W s Ab Ao nf cb no co q m er 4 (decide (row.length = 0)))
              rw [← hc4] at hs2 KF
              have g3 := rbits_range s q c4 2 g.1
              have KB := Aside0.mk (fun W => rbits_calls W s Ab Ao nf cb no co q 2 m c4 hs g.1 (by omega))
              obtain ⟨⟨q3, c3, n3⟩, hr3⟩ : ∃ r, r = rbits s q c4 2 := ⟨_, rfl⟩
              rw [← hr3] at hs2 KB g3
              dsimp only at hs2 KB g3
              simp only [Prod.mk.injEq] at hs2
              have HE := Aside0.mk hs2
              clear hs2 hr3 hc4
              have hp3 : (2 : Int) ^ 2 = 4 := rfl
              rw [hp3] at g3
              clear hp3
              have main : ∀ (b : Bool), decide (row.length = 0) = b → ((row.length : Int) == 0) = b := fun b h => by
                cases b with
                | true => exact beq_iff_eq.2 (by have := of_decide_eq_true h; omega)
                | false => exact beq_false_of_ne (by have := of_decide_eq_false h; omega)
              obtain ⟨b0, hb0⟩ : ∃ b, decide (row.length = 0) = b := ⟨_, rfl⟩
              have q7 := main b0 hb0
              rw [hb0] at KF
              clear main
              cases b0 with
              | true =>
                have hl0 := of_decide_eq_true hb0
                have q8 : decide ((0 : Int) < (row.length : Int)) = false := decide_eq_false (by omega)
                have q8n : decide (0 < row.length) = false := decide_eq_false (by omega)
                have HL0 := Aside0.mk hl0
                clear hb0 hl0
                go_wp2_with (refine wpList_load_row rfl 53 _ rfl x rfl 53 _ (0, 0) _ x5 Tryz.underlying53 rfl infoState ?_)
                refine (KF.out _).mono ?_
                rintro e W6 ⟨rfl, hb6⟩
                have x6 := blk_below x5 hb6
                have x7 := setRow_heap _ _ _ #[.string s, .slice Ab nf cb, .int .i64 (q : Int), .slice Ao no co, .int .i64 m, .int .i64 c4] _ _ x6
                go_wp2_with (first | (refine wpList_store_rowTo rfl 53 _ _ rfl rfl x #[.string s, .slice Ab nf cb, .int .i64 (q : Int), .slice Ao no co, .int .i64 m, .int .i64 c4] rfl rfl 53 _ x6 infoState rfl (st_one _ _ _ _ _ _ _ _ _ _) ?_) | (refine wpList_load_row rfl 53 _ rfl x rfl 53 _ (0, 0) _ x7 Tryz.underlying53 rfl infoState ?_))
                refine (KB.out _).mono ?_
                rintro e W8 ⟨rfl, hb8⟩
                have hbB : Below W5.heap.size W5 (W8.setRow x #[.string s, .slice Ab nf cb, .int .i64 (q3 : Int), .slice Ao no co, .int .i64 m, .int .i64 c3]) ∨ True := .inr trivial
                have x8 := blk_below x7 hb8
                have HN : Aside0 (Bx w (W8.setRow x #[.string s, .slice Ab nf cb, .int .i64 (q3 : Int), .slice Ao no co, .int .i64 m, .int .i64 c3]) N0 x z #[.string s, .slice Ab nf cb, .int .i64 (q3 : Int), .slice Ao no co, .int .i64 m, .int .i64 c3] ∧ Row (W8.setRow x #[.string s, .slice Ab nf cb, .int .i64 (q3 : Int), .slice Ao no co, .int .i64 m, .int .i64 c3]) g0 3 .i64 (.slice A row.length k) row ∧ Fr W1 (W8.setRow x #[.string s, .slice Ab nf cb, .int .i64 (q3 : Int), .slice Ao no co, .int .i64 m, .int .i64 c3]) (· = x)) := ⟨((((HW4.out.1.below hb6).put _).below hb8).put _), ((((HW4.out.2.1.below hb6).putI x6 _).below hb8).putI x8 _), ((((HW4.out.2.2.x_ hb6).then_ (fr_setRow W6 x _)).x_ hb8).then_ (fr_setRow W8 x _))⟩
                clear KB KF hb6 hb8 hbB x7
                go_wp2_with (refine wpList_store_rowTo rfl 53 _ _ rfl rfl x #[.string s, .slice Ab nf cb, .int .i64 (q3 : Int), .slice Ao no co, .int .i64 m, .int .i64 c3] rfl rfl 53 _ x8 infoState rfl (st_one _ _ _ _ _ _ _ _ _ _) ?_)
                go_meet
                exact ⟨by rw [HE.out.2.2.1], by rw [HE.out.2.2.2, if_pos HL0.out]; rfl, by rw [HE.out.1, HE.out.2.1]; exact HN⟩
              | false =>
                have hl0 := of_decide_eq_false hb0
                have q8 : decide ((0 : Int) < (row.length : Int)) = true := decide_eq_true (by omega)
                have q8n : decide (0 < row.length) = true := decide_eq_true (by omega)
                have HL0 := Aside0.mk hl0
                clear hb0
                go_wp2_with (refine wpList_load_row rfl 53 _ rfl x rfl 53 _ (0, 0) _ x5 Tryz.underlying53 rfl infoState ?_)
                refine (KF.out _).mono ?_
                rintro e W6 ⟨rfl, hb6⟩
                have x6 := blk_below x5 hb6
                have x7 := setRow_heap _ _ _ #[.string s, .slice Ab nf cb, .int .i64 (q : Int), .slice Ao no co, .int .i64 m, .int .i64 c4] _ _ x6
                go_wp2_with (first | (refine wpList_store_rowTo rfl 53 _ _ rfl rfl x #[.string s, .slice Ab nf cb, .int .i64 (q : Int), .slice Ao no co, .int .i64 m, .int .i64 c4] rfl rfl 53 _ x6 infoState rfl (st_one _ _ _ _ _ _ _ _ _ _) ?_) | (refine wpList_load_row rfl 53 _ rfl x rfl 53 _ (0, 0) _ x7 Tryz.underlying53 rfl infoState ?_))
                refine (KB.out _).mono ?_
                rintro e W8 ⟨rfl, hb8⟩
                have x8 := blk_below x7 hb8
                have HN : Aside0 (Bx w (W8.setRow x #[.string s, .slice Ab nf cb, .int .i64 (q3 : Int), .slice Ao no co, .int .i64 m, .int .i64 c3]) N0 x z #[.string s, .slice Ab nf cb, .int .i64 (q3 : Int), .slice Ao no co, .int .i64 m, .int .i64 c3] ∧ Row (W8.setRow x #[.string s, .slice Ab nf cb, .int .i64 (q3 : Int), .slice Ao no co, .int .i64 m, .int .i64 c3]) g0 3 .i64 (.slice A row.length k) row ∧ Fr W1 (W8.setRow x #[.string s, .slice Ab nf cb, .int .i64 (q3 : Int), .slice Ao no co, .int .i64 m, .int .i64 c3]) (· = x)) := ⟨((((HW4.out.1.below hb6).put _).below hb8).put _), ((((HW4.out.2.1.below hb6).putI x6 _).below hb8).putI x8 _), ((((HW4.out.2.2.x_ hb6).then_ (fr_setRow W6 x _)).x_ hb8).then_ (fr_setRow W8 x _))⟩
                obtain ⟨A', c', hv', hrd⟩ := HN.out.2.1.reads
                injection hv' with hv1 hv2 hv3
                subst hv1
                obtain ⟨ix, hix⟩ : ∃ ix, ix = row.length - 1 := ⟨_, rfl⟩
                have hix2 : (row.length : Int) - 1 = (ix : Int) := by omega
                obtain ⟨ad, hadd, hcell⟩ := ReadsInt.at_ hrd (ix : Int) (by omega) (by omega)
                subst hadd
                rw [Int.toNat_natCast, rd, Int.toNat_natCast] at hcell
                have hixI0 : (0 : Int) ≤ (ix : Int) := by omega
                have hixI1 : (ix : Int) < (row.length : Int) := by omega
                have HIX := Aside0.mk hix
                clear KB KF hb6 hb8 x7 hrd hv2 hv3 hix hl0
                go_wp2_with (refine wpList_store_rowTo rfl 53 _ _ rfl rfl x #[.string s, .slice Ab nf cb, .int .i64 (q3 : Int), .slice Ao no co, .int .i64 m, .int .i64 c3] rfl rfl 53 _ x8 infoState rfl (st_one _ _ _ _ _ _ _ _ _ _) ?_)
                go_meet
                exact ⟨by rw [HE.out.2.2.1], by rw [HE.out.2.2.2, if_neg HL0.out, HIX.out, List.getD_eq_getElem?_getD], by rw [HE.out.1, HE.out.2.1]; exact HN⟩
            · have q6 : ((D : Int) == 16) = false := beq_false_of_ne (by omega)
              by_cases h17 : D = 17
              · subst h17
                have q7 : (((17 : Nat) : Int) == 17) = true := by decide
                have hs2 := HSW.out
                unfold rsw at hs2
                rw [if_neg (by omega), if_pos (by omega)] at hs2
                dsimp only at hs2
                simp only [Prod.mk.injEq] at hs2
                have g3 := rbits_range s q er 3 g.1
                have KB := Aside0.mk (fun W => rbits_calls W s Ab Ao nf cb no co q 3 m er hs g.1 (by omega))
                obtain ⟨⟨q3, c3, n3⟩, hr3⟩ : ∃ r, r = rbits s q er 3 := ⟨_, rfl⟩
                rw [← hr3] at hs2 KB g3
                dsimp only at hs2 KB g3
                have HE := Aside0.mk hs2
                clear hs2 hr3
                have hp3 : (2 : Int) ^ 3 = 8 := rfl
                rw [hp3] at g3
                clear hp3
                go_wp2_with (refine wpList_load_row rfl 53 _ rfl x rfl 53 _ (0, 0) _ x5 Tryz.underlying53 rfl infoState ?_)
                refine (KB.out _).mono ?_
                rintro e W6 ⟨rfl, hb6⟩
                have x6 := blk_below x5 hb6
                have HN := HFF.out W6 hb6 #[.string s, .slice Ab nf cb, .int .i64 (q3 : Int), .slice Ao no co, .int .i64 m, .int .i64 c3]
                clear KB
                go_wp2_with (refine wpList_store_rowTo rfl 53 _ _ rfl rfl x #[.string s, .slice Ab nf cb, .int .i64 (q3 : Int), .slice Ao no co, .int .i64 m, .int .i64 c3] rfl rfl 53 _ x6 infoState rfl (st_one _ _ _ _ _ _ _ _ _ _) ?_)
                go_meet
                exact ⟨by rw [HE.out.2.2.1], by rw [HE.out.2.2.2], by rw [HE.out.1, HE.out.2.1]; exact HN⟩
              · have q7 : ((D : Int) == 17) = false := beq_false_of_ne (by omega)
                by_cases h18 : D = 18
                · subst h18
                  have q8 : (((18 : Nat) : Int) == 18) = true := by decide
                  have hs2 := HSW.out
                  unfold rsw at hs2
                  rw [if_neg (by omega), if_neg (by omega), if_pos (by omega)] at hs2
                  dsimp only at hs2
                  simp only [Prod.mk.injEq] at hs2
                  have g3 := rbits_range s q er 7 g.1
                  have KB := Aside0.mk (fun W => rbits_calls W s Ab Ao nf cb no co q 7 m er hs g.1 (by omega))
                  obtain ⟨⟨q3, c3, n3⟩, hr3⟩ : ∃ r, r = rbits s q er 7 := ⟨_, rfl⟩
                  rw [← hr3] at hs2 KB g3
                  dsimp only at hs2 KB g3
                  have HE := Aside0.mk hs2
                  clear hs2 hr3
                  have hp3 : (2 : Int) ^ 7 = 128 := rfl
                  rw [hp3] at g3
                  clear hp3
                  go_wp2_with (refine wpList_load_row rfl 53 _ rfl x rfl 53 _ (0, 0) _ x5 Tryz.underlying53 rfl infoState ?_)
                  refine (KB.out _).mono ?_
                  rintro e W6 ⟨rfl, hb6⟩
                  have x6 := blk_below x5 hb6
                  have HN := HFF.out W6 hb6 #[.string s, .slice Ab nf cb, .int .i64 (q3 : Int), .slice Ao no co, .int .i64 m, .int .i64 c3]
                  clear KB
                  go_wp2_with (refine wpList_store_rowTo rfl 53 _ _ rfl rfl x #[.string s, .slice Ab nf cb, .int .i64 (q3 : Int), .slice Ao no co, .int .i64 m, .int .i64 c3] rfl rfl 53 _ x6 infoState rfl (st_one _ _ _ _ _ _ _ _ _ _) ?_)
                  go_meet
                  exact ⟨by rw [HE.out.2.2.1], by rw [HE.out.2.2.2], by rw [HE.out.1, HE.out.2.1]; exact HN⟩
                · have q8 : ((D : Int) == 18) = false := beq_false_of_ne (by omega)
                  have hs2 := HSW.out
                  unfold rsw at hs2
                  rw [if_neg (by omega), if_neg (by omega), if_neg (by omega)] at hs2
                  simp only [Prod.mk.injEq] at hs2
                  have HE := Aside0.mk hs2
                  clear hs2
                  go_wp2_with fail
                  go_meet
                  exact ⟨by rw [HE.out.2.2.1], by rw [HE.out.2.2.2], by rw [HE.out.1, HE.out.2.1]; exact HW4⟩
          case rest =>
            obtain ⟨rfl, rfl, HW6⟩ := hcut
            clear HW4 HSW
            have x6 := HW6.out.1.xb
            obtain ⟨c3, hc3⟩ : ∃ c, c = rfail c2 (decide ((many : Int) < (row.length : Int) + tm)) 4 := ⟨_, rfl⟩
            have KF := Aside0.mk (fun W => rfail_calls W s Ab Ao nf cb no co q2 m c2 4 (decide ((many : Int) < (row.length : Int) + tm)))
            have HREC1 := HREC.out
            rw [← hc3] at KF HREC1
            have HC3 := Aside0.mk hc3
            obtain ⟨T, hT⟩ := Int.eq_ofNat_of_zero_le (show 0 ≤ tm by omega)
            subst hT
            rw [Int.toNat_natCast] at HREC1
            clear HREC hc3
            have HREC := Aside0.mk HREC1
            clear HREC1
            go_wp2_with (refine wpList_load_row rfl 53 _ rfl x rfl 53 _ (0, 0) _ x6 Tryz.underlying53 rfl infoState ?_)
            refine (KF.out _).mono ?_
            rintro e W7 ⟨rfl, hb7⟩
            have hx7 := HW6.out.1.below hb7
            have x7 := hx7.xb
            have HW7 : Aside0 (Bx w _ N0 x z #[.string s, .slice Ab nf cb, .int .i64 (q2 : Int), .slice Ao no co, .int .i64 m, .int .i64 c3] ∧ Row _ g0 3 .i64 (.slice A row.length k) row ∧ Fr W1 _ (· = x)) := ⟨hx7.put #[.string s, .slice Ab nf cb, .int .i64 (q2 : Int), .slice Ao no co, .int .i64 m, .int .i64 c3], (HW6.out.2.1.below hb7).putI x7 #[.string s, .slice Ab nf cb, .int .i64 (q2 : Int), .slice Ao no co, .int .i64 m, .int .i64 c3], (HW6.out.2.2.x_ hb7).then_ (fr_setRow _ x #[.string s, .slice Ab nf cb, .int .i64 (q2 : Int), .slice Ao no co, .int .i64 m, .int .i64 c3])⟩
            clear KF hb7 HW6 x6 hx7
            go_upto_region 21 with (refine wpList_store_rowTo rfl 53 _ _ rfl rfl x #[.string s, .slice Ab nf cb, .int .i64 (q2 : Int), .slice Ao no co, .int .i64 m, .int .i64 c3] rfl rfl 53 _ x7 infoState rfl (st_one _ _ _ _ _ _ _ _ _ _) ?_)
            generalize World.setRow W7 x _ = W8 at HW7 ⊢
            have hk2 : many < row.length + (k1 + 1) := by simpa using hk
            have hT1 : 1 ≤ T ∧ T ≤ 200 := by omega
            clear x7 hk
            by_cases h3 : c3 = 0
            · subst h3
              have hcc : row.length + T ≤ many := by
                have h := HC3.out
                unfold rfail at h
                split at h
                · cases h
                · rename_i hn
                  by_cases h9 : (many : Int) < (row.length : Int) + (T : Int)
                  · exact absurd ⟨decide_eq_true h9, h.symm⟩ hn
                  · omega
              have hrec := HREC.out
              rw [if_pos rfl] at hrec
              clear HREC HC3
              have HREC := Aside0.mk hrec
              clear hrec
              go_wp2_with fail
              go_loopw [10, 15] (fun v10 v15 wq => ∃ (j : Nat) (A7 : Option Addr) (n7 k7 : Nat), v10 = .slice A7 n7 k7 ∧ v15 = .int .i64 (j : Int) ∧ j ≤ T ∧ Aside0 (n7 = row.length + j) ∧ Aside0 (Bx w wq N0 x z #[.string s, .slice Ab nf cb, .int .i64 (q2 : Int), .slice Ao no co, .int .i64 m, .int .i64 0] ∧ Row wq g0 3 .i64 (.slice A7 n7 k7) (row ++ List.replicate j wt) ∧ Fr W1 wq (· = x))) (fun _ v15 _ => T - (intOf v15).toNat)
              case atStart => exact ⟨0, A, row.length, k, rfl, rfl, by omega, ⟨rfl⟩, ⟨HW7.out.1, by rw [List.replicate_zero, List.append_nil]; exact HW7.out.2.1, HW7.out.2.2⟩⟩
              case round =>
                clear HW7
                obtain ⟨j, A7, n7, k7, rfl, rfl, hj, hn7, HQ⟩ := hrel
                have q5 : ((0 : Int) == 0) = true := rfl
                have hgq : g0 ≤ wr.heap.size := by rw [HG0.out]; exact HQ.out.2.2.size
                by_cases hjt : j < T
                · have s3 : decide ((j : Int) < (T : Int)) = true := decide_eq_true (by omega)
                  have s3n : decide (j < T) = true := decide_eq_true hjt
                  have d5 : wr.cell? ⟨x, 5, none⟩ = some (.int .i64 0) := blk_cell HQ.out.1.xb 5
                  have hlen : (row ++ List.replicate j wt).length = row.length + j := by rw [List.length_append, List.length_replicate]
                  have hl1 : (row ++ List.replicate j wt).length + 1 ≤ maxLen := by unfold maxLen; omega
                  have hl2 : ((row ++ List.replicate j wt).length + 1) * 8 ≤ 140737488355328 := by omega
                  have hBx : g0 ≤ (wr.alloc (.cells #[.int .i64 wt] 3)).heap.size := by simp; omega
                  have HLEN := Aside0.mk hlen
                  clear hlen
                  go_wp2_with (at_builtin; refine app_wp g0 rfl _ _ 50 3 .i64 8 rfl Tryz.underlying50 infoI64 (.slice A7 n7 k7) (row ++ List.replicate j wt) [wt] rfl ⟨wr.heap.size, 0, none⟩ 1 1 rfl rfl (news_lit wr .i64 [wt] _ _ (by rfl)) (HQ.out.2.1.alloc _) hBx hl1 hl2 ?_; intro v8 w8 hap; obtain ⟨A8, n8, k8, hv8, hn8⟩ := hap.row.shape; subst hv8)
                  have hbx := HQ.out.1.appI HQ.out.2.1 hap (by rw [HG0.out]; exact hBW) hgq
                  have hrw := hap.row
                  rw [List.append_assoc, ← List.replicate_succ'] at hrw
                  have HN : Aside0 (_ ∧ _ ∧ Fr W1 w8 (· = x)) := ⟨hbx.1, hrw, HQ.out.2.2.trans (S2 := fun k => g0 ≤ k) ⟨hbx.2.os, hbx.2.tape, hbx.2.output, hbx.2.size, fun k _ hn => hbx.2.block k (by omega)⟩ (fun k hk hs => absurd hk (by rw [← HG0.out]; omega))⟩
                  have HN8 : Aside0 (n8 = row.length + (j + 1)) := ⟨by rw [hn8.out, List.length_append, HLEN.out]; rfl⟩
                  clear hap hbx hrw hn8
                  go_roundw
                  case rel => first | exact ⟨j + 1, A8, n8, k8, rfl, by go_num, by omega, HN8, ⟨HN.out.1, HN.out.2.1, HN.out.2.2⟩⟩ | ((repeat apply Exists.intro); exact ⟨⟨j + 1, A8, n8, k8, rfl, by go_num, by omega, HN8, ⟨HN.out.1, HN.out.2.1, HN.out.2.2⟩⟩, rfl⟩)
                  case measure => simp [intOf]; omega
                · have s3 : decide ((j : Int) < (T : Int)) = false := decide_eq_false (by omega)
                  have s3n : decide (j < T) = false := decide_eq_false hjt
                  obtain rfl : j = T := by omega
                  have hlen : (row ++ List.replicate j wt).length = row.length + j := by rw [List.length_append, List.length_replicate]
                  have HLEN := Aside0.mk hlen
                  clear hlen
                  go_wp2_with fail
                  go_roundg k1
                  case measure => omega
                  case rel => exact ⟨q2, 0, row ++ List.replicate j wt, A7, n7, k7, rfl, ⟨by rw [hn7.out, HLEN.out]⟩, gw.1, by rw [HLEN.out]; omega, fun _ => by rw [HLEN.out]; omega, ⟨HQ.out.1, HQ.out.2.1, HQ.out.2.2, by rw [if_pos rfl]; exact HREC.out⟩⟩
            · have q5 : (c3 == 0) = false := beq_false_of_ne h3
              have hrec := HREC.out
              rw [if_neg h3] at hrec
              clear HREC HC3
              have HREC := Aside0.mk hrec
              clear hrec
              have s3 : decide ((0 : Int) < (T : Int)) = true := decide_eq_true (by omega)
              have s3n : decide (0 < T) = true := decide_eq_true (by omega)
              have d5 : W8.cell? ⟨x, 5, none⟩ = some (.int .i64 c3) := blk_cell HW7.out.1.xb 5
              go_wp2_with fail
              go_loopw [10, 15] (fun v10 v15 wq => v10 = .slice A row.length k ∧ v15 = .int .i64 0 ∧ wq = W8) (fun _ _ _ => 0)
              case atStart => exact ⟨rfl, rfl, rfl⟩
              case round =>
                obtain ⟨rfl, rfl, rfl⟩ := hrel
                go_wp2_with fail
                go_roundg k1
                case measure => omega
                case rel => exact ⟨q2, c3, row, A, row.length, k, rfl, ⟨rfl⟩, gw.1, hrl, fun h => absurd h h3, ⟨HW7.out.1, HW7.out.2.1, HW7.out.2.2, by rw [if_neg h3]; exact HREC.out⟩⟩
      · have q5 : (c == 0) = false := beq_false_of_ne hc
        have hrec := HW.out.2.2.2
        rw [if_neg hc] at hrec
        have HREC := Aside0.mk hrec
        have HZ := HW.out.1.out #[.string s, .slice Ab nf cb, .int .i64 (p1 : Int), .slice Ao no co, .int .i64 m, .int .i64 c]
        have HRW := Aside0.mk (HW.out.2.1.putI zw #[.string s, .slice Ab nf cb, .int .i64 (p1 : Int), .slice Ao no co, .int .i64 m, .int .i64 c])
        clear hrec
        go_wp2_with (first | (refine wpList_load_row rfl 53 _ rfl x rfl 53 _ (0, 0) _ xw Tryz.underlying53 rfl infoState ?_) | (refine wpList_store_rowTo rfl 53 _ _ rfl rfl z #[.string s, .slice Ab nf cb, .int .i64 (p1 : Int), .slice Ao no co, .int .i64 m, .int .i64 c] rfl rfl 53 _ zw infoState rfl (st_one _ _ _ _ _ _ _ _ _ _) ?_))
        exact bodyPost_ret (results_ct rfl _ _ z 53 #[.string s, .slice Ab nf cb, .int .i64 (p1 : Int), .slice Ao no co, .int .i64 m, .int .i64 c] (0, 0) _ rfl HZ.1 Tryz.underlying53 rfl infoState) rfl ⟨A, k, by rw [HREC.out]; rfl, by rw [HREC.out]; exact HRW.out.lower (by rw [HG0.out]; exact hBW), HZ.2.below (fun _ h => h.elim) (Nat.le_refl _)⟩
    · have s1 : decide ((row.length : Int) < (many : Int)) = false := decide_eq_false (by omega)
      have s1n : decide (row.length < many) = false := decide_eq_false hlt
      have hrec : res = (p1, c, row) := by
        have h := HW.out.2.2.2
        by_cases hc : c = 0
        · subst hc
          rw [if_pos rfl] at h
          cases gk with
          | zero => exact absurd (hk rfl) (by omega)
          | succ k1 => rw [rrowL, if_neg hlt] at h; exact h
        · rw [if_neg hc] at h; exact h
      have HREC := Aside0.mk hrec
      have HZ := HW.out.1.out #[.string s, .slice Ab nf cb, .int .i64 (p1 : Int), .slice Ao no co, .int .i64 m, .int .i64 c]
      have HRW := Aside0.mk (HW.out.2.1.putI zw #[.string s, .slice Ab nf cb, .int .i64 (p1 : Int), .slice Ao no co, .int .i64 m, .int .i64 c])
      clear hrec
      go_wp2_with (first | (refine wpList_load_row rfl 53 _ rfl x rfl 53 _ (0, 0) _ xw Tryz.underlying53 rfl infoState ?_) | (refine wpList_store_rowTo rfl 53 _ _ rfl rfl z #[.string s, .slice Ab nf cb, .int .i64 (p1 : Int), .slice Ao no co, .int .i64 m, .int .i64 c] rfl rfl 53 _ zw infoState rfl (st_one _ _ _ _ _ _ _ _ _ _) ?_))
      exact bodyPost_ret (results_ct rfl _ _ z 53 #[.string s, .slice Ab nf cb, .int .i64 (p1 : Int), .slice Ao no co, .int .i64 m, .int .i64 c] (0, 0) _ rfl HZ.1 Tryz.underlying53 rfl infoState) rfl ⟨A, k, by rw [HREC.out]; rfl, by rw [HREC.out]; exact HRW.out.lower (by rw [HG0.out]; exact hBW), HZ.2.below (fun _ h => h.elim) (Nat.le_refl _)⟩
end Go.Proofs.YtbgdadehjnifeaaGreat.Hand
