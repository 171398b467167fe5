/- The scanner of layer 15: hex and its closure; walked by hand. -/
import Derived.Test.YtkmmmlbppobifaaHand15t
namespace Go.Proofs.Ytkmmmlbppobifaa.Hand
open Go.RowKit Go.Proofs.YtkmmmlbppobifaaW.PrintWords Go.Proofs.YtkmmmlbppobifaaW.PrintLast Go.Proofs.YtkmmmlbppobifaaW.PrintMore Go.Proofs.Ytkmmmlbppobifaa.Num Go.Proofs.Ytkmmmlbppobifaa.P01a
set_option linter.unusedVariables false
set_option linter.unusedSimpArgs false
theorem or_nib : ∀ a b : Fin 16, bits .or .u8 (16 * ((a.val : Nat) : Int)) ((b.val : Nat) : Int) = 16 * ((a.val : Nat) : Int) + ((b.val : Nat) : Int) := by decide +kernel
theorem or_nib' (a b : Int) (ha : 0 ≤ a ∧ a < 16) (hb : 0 ≤ b ∧ b < 16) : bits .or .u8 (16 * a) b = 16 * a + b := by
  obtain ⟨am, ham⟩ := Int.eq_ofNat_of_zero_le ha.1
  obtain ⟨bm, hbm⟩ := Int.eq_ofNat_of_zero_le hb.1
  rw [ham, hbm]
  exact or_nib ⟨am, by omega⟩ ⟨bm, by omega⟩
theorem App.undrewT {W w1 : World} {B : Nat} {e : TypeId} {k : IntKind} {v v1 : Value} {xs : List Int} (h : App W.drew w1 B e k v v1 xs) : App W w1 B e k v v1 xs := ⟨h.row, ⟨h.grown.os, h.grown.tape, h.grown.output, h.grown.size, h.grown.block⟩⟩
structure Bxs (W : World) (g bx mb : Nat) (n : Int) : Prop where
  box : W.heap[bx]? = some (.cells #[.pointer (some ⟨g, 0, none⟩)] 44 (0, 0))
  many : W.heap[mb]? = some (.cells #[.int .i64 n] 3 (0, 0))
def SM (B g mb : Nat) (w : World) (k : Nat) : Prop := k = mb ∨ SC B g w k
set_option maxRecDepth 100000 in
set_option maxHeartbeats 4000000 in
theorem take_even (W : World) (B g bx mb : Nat) (s : ByteArray) (p : Nat) (n d : Int) (o : List Int) (h : ScAt W B g s p o) (hb : Bxs W g bx mb n) (hd : 0 ≤ d ∧ d < 16) (hn : 0 ≤ n ∧ n ≤ 200000) (h2 : n % 2 = 0) (hol : o.length ≤ 60000) (hB : B ≤ W.heap.size) :
    Calls Try.prog 45 #[.int .i64 d, .pointer (some ⟨mb, 0, none⟩), .pointer (some ⟨bx, 0, none⟩)] W fun e w' => e = .returned (.tuple #[]) ∧ ScAt w' B g s p (o ++ [16 * d]) ∧ Bxs w' g bx mb (n + 1) ∧ Fr W w' (SM B g mb W) := by
  obtain ⟨A, na, ca, hna, hg, hr, c0, c1, c2, f1, f2⟩ := h.cells
  have m0 : W.cell? ⟨mb, 0, none⟩ = some (.int .i64 n) := blk_cell hb.many 0
  have m1 : W.frozen? ⟨mb, 0, none⟩ = false := blk_frozen hb.many 0
  have hmg : mb ≠ g := by
    rintro rfl
    have := hb.many; rw [hg] at this; injection this with this; injection this with _ this; exact absurd this (by decide)
  have hbm : bx ≠ mb := by
    rintro rfl
    have := hb.many; rw [hb.box] at this; injection this with this; injection this with _ this; exact absurd this (by decide)
  have hbg : bx ≠ g := by
    rintro rfl
    have := hb.box; rw [hg] at this; injection this with this; injection this with _ this; exact absurd this (by decide)
  have b1 := blk_set hb.many 0 (.int .i64 (n + 1))
  have hf : Fr W (W.setCell ⟨mb, 0, none⟩ (.int .i64 (n + 1))) (· = mb) := (Fr.refl W _).set1 (g := mb) 0 _
  have b2 : (W.setCell ⟨mb, 0, none⟩ (.int .i64 (n + 1))).heap[bx]? = _ := blk_far hb.box (p := ⟨mb, 0, none⟩) hbm _
  have b3 : (W.setCell ⟨mb, 0, none⟩ (.int .i64 (n + 1))).heap[g]? = _ := blk_far hg (p := ⟨mb, 0, none⟩) (Ne.symm hmg) _
  have hr3 := hr.fr hf (fun j hj => hr.ne_blk hb.many (by decide) j hj)
  have H := Aside0.mk (And.intro (And.intro b1 b2) (And.intro (And.intro b3 hr3) hf))
  have HNE := Aside0.mk (And.intro hmg (And.intro hbm hbg))
  have hn1 : (n + 1) % 2 = 1 := by omega
  have s1 : ((n + 1) % 2 == 1) = true := beq_iff_eq.2 hn1
  have hBs : B ≤ (W.setCell ⟨mb, 0, none⟩ (.int .i64 (n + 1))).heap.size := by simpa [World.setCell] using hB
  clear h hb hna hg hr c0 c1 c2 f1 f2 hf b1 b2 b3 hr3 hmg hbm hbg h2 hn1
  go_enter Try.func45, Try.ntmps45
  go_upto_region 1 with fail
  generalize World.setCell W _ _ = W1 at H hBs ⊢
  have m2 : W1.cell? ⟨mb, 0, none⟩ = some (.int .i64 (n + 1)) := blk_cell H.out.1.1 0
  have x2 : W1.cell? ⟨bx, 0, none⟩ = some (.pointer (some ⟨g, 0, none⟩)) := blk_cell H.out.1.2 0
  have c2 : W1.cell? ⟨g, 2, none⟩ = some (.slice A na ca) := blk_cell H.out.2.1.1 2
  clear m0 m1
  obtain ⟨y, hy⟩ : ∃ y : Int, y = 16 * d := ⟨_, rfl⟩
  have hyw : IntKind.u8.wrap (d * 16) = y := by rw [IntKind.wrap_u8]; omega
  have hiw : IntKind.i64.wrap (d * 16) = d * 16 := IntWalk.i64_in _ (by omega)
  have HY := Aside0.mk hy
  have c5 : (W1.alloc (.cells #[.int .u8 y] 5)).cell? ⟨g, 2, none⟩ = some (.slice A na ca) := blk_cell (blk_alloc H.out.2.1.1 _) 2
  have x5 : (W1.alloc (.cells #[.int .u8 y] 5)).cell? ⟨bx, 0, none⟩ = some (.pointer (some ⟨g, 0, none⟩)) := blk_cell (blk_alloc H.out.1.2 _) 0
  clear hy
  go_wp2_with fail
  go_region_law (refine app_step B rfl _ _ 45 5 .u8 1 rfl Try.underlying45 infoU8 (.slice A na ca) o [y] rfl ⟨W1.heap.size, 0, none⟩ 1 1 rfl rfl (news_lit W1 .u8 [y] _ _ (by rfl)) ((H.out.2.1.2.alloc _).drew) (by simp; omega) (by unfold maxLen; omega) (by omega) ?_; intro v8 w8 hap; obtain ⟨A8, n8, k8, hv8, hn8⟩ := hap.row.shape; subst hv8; have hap1 := hap.undrewT; have hb8 := hap1.blk (H.out.2.1.2.alloc _) (blk_alloc H.out.2.1.1 _) (by decide); have f8 := blk_frozen hb8 2; have d8 : w8.cell? ⟨g, 2, none⟩ = some (.slice A na ca) := blk_cell hb8 2; have hx8 := hap1.blk (H.out.2.1.2.alloc _) (blk_alloc H.out.1.2 _) (by decide); have x8 : w8.cell? ⟨bx, 0, none⟩ = some (.pointer (some ⟨g, 0, none⟩)) := blk_cell hx8 0)
  all_goals
    have hx := ScAt.app (blk_alloc H.out.2.1.1 _) (H.out.2.1.2.alloc _) hap1
    have hm8 := hap1.blk (H.out.2.1.2.alloc _) (blk_alloc H.out.1.1 _) (by decide)
    have hz : Bxs (w8.setCell ⟨g, 2, none⟩ (.slice A8 n8 k8)) g bx mb (n + 1) := ⟨blk_far hx8 (p := ⟨g, 2, none⟩) HNE.out.2.2 _, blk_far hm8 (p := ⟨g, 2, none⟩) HNE.out.1 _⟩
    have hff : Fr W (w8.setCell ⟨g, 2, none⟩ (.slice A8 n8 k8)) (SM B g mb W) := (H.out.2.2.mono (fun _ _ h => .inl h)).trans ((Fr.of_below (below_alloc (Below.refl W1.heap.size W1) (.cells #[.int .u8 y] 5)) _).sc hx.2) (fun k hk h => by
      rcases h with h | ⟨h, hu⟩
      · exact .inr (.inl h)
      · by_cases hn : k = mb
        · exact .inl hn
        · exact .inr (.inr ⟨h, U8c.old H.out.2.2 hk hu hn⟩))
    have HK : Aside0 (_ ∧ _ ∧ _) := ⟨hx.1, hz, hff⟩
    clear hx hm8 hz hff hap hap1 hb8 f8 d8 hx8 x8 hn8
    go_wp2_with fail
    go_returns
    rw [← HY.out]
    exact ⟨rfl, HK.out.1, HK.out.2.1, HK.out.2.2⟩
set_option maxRecDepth 100000 in
set_option maxHeartbeats 4000000 in
theorem take_odd (W : World) (B g bx mb : Nat) (s : ByteArray) (p : Nat) (n d hf : Int) (o : List Int) (h : ScAt W B g s p (o ++ [16 * hf])) (hhf : 0 ≤ hf ∧ hf < 16) (hb : Bxs W g bx mb n) (hd : 0 ≤ d ∧ d < 16) (hn : 0 ≤ n ∧ n ≤ 200000) (h2 : n % 2 = 1) (hol : o.length ≤ 60000) (hB : B ≤ W.heap.size) :
    Calls Try.prog 45 #[.int .i64 d, .pointer (some ⟨mb, 0, none⟩), .pointer (some ⟨bx, 0, none⟩)] W fun e w' => e = .returned (.tuple #[]) ∧ ScAt w' B g s p (o ++ [16 * hf + d]) ∧ Bxs w' g bx mb (n + 1) ∧ Fr W w' (SM B g mb W) := by
  obtain ⟨A, na, ca, hna, hg, hr, c0, c1, c2, f1, f2⟩ := h.cells
  have m0 : W.cell? ⟨mb, 0, none⟩ = some (.int .i64 n) := blk_cell hb.many 0
  have m1 : W.frozen? ⟨mb, 0, none⟩ = false := blk_frozen hb.many 0
  have hmg : mb ≠ g := by
    rintro rfl
    have := hb.many; rw [hg] at this; injection this with this; injection this with _ this; exact absurd this (by decide)
  have hbm : bx ≠ mb := by
    rintro rfl
    have := hb.many; rw [hb.box] at this; injection this with this; injection this with _ this; exact absurd this (by decide)
  have hbg : bx ≠ g := by
    rintro rfl
    have := hb.box; rw [hg] at this; injection this with this; injection this with _ this; exact absurd this (by decide)
  have b1 := blk_set hb.many 0 (.int .i64 (n + 1))
  have hf : Fr W (W.setCell ⟨mb, 0, none⟩ (.int .i64 (n + 1))) (· = mb) := (Fr.refl W _).set1 (g := mb) 0 _
  have b2 : (W.setCell ⟨mb, 0, none⟩ (.int .i64 (n + 1))).heap[bx]? = _ := blk_far hb.box (p := ⟨mb, 0, none⟩) hbm _
  have b3 : (W.setCell ⟨mb, 0, none⟩ (.int .i64 (n + 1))).heap[g]? = _ := blk_far hg (p := ⟨mb, 0, none⟩) (Ne.symm hmg) _
  have hr3 := hr.fr hf (fun j hj => hr.ne_blk hb.many (by decide) j hj)
  have H := Aside0.mk (And.intro (And.intro b1 b2) (And.intro (And.intro b3 hr3) hf))
  have HNE := Aside0.mk (And.intro hmg (And.intro hbm hbg))
  have hn1 : (n + 1) % 2 = 0 := by omega
  have s1 : ((n + 1) % 2 == 1) = false := beq_false_of_ne (by omega)
  have hBs : B ≤ (W.setCell ⟨mb, 0, none⟩ (.int .i64 (n + 1))).heap.size := by simpa [World.setCell] using hB
  have hnal : na = o.length + 1 := by rw [hna.out, List.length_append]; rfl
  clear h hb hna hg hr c0 c1 c2 f1 f2 hf b1 b2 b3 hr3 hmg hbm hbg h2 hn1
  go_enter Try.func45, Try.ntmps45
  go_upto_region 1 with fail
  generalize World.setCell W _ _ = W1 at H hBs ⊢
  have m2 : W1.cell? ⟨mb, 0, none⟩ = some (.int .i64 (n + 1)) := blk_cell H.out.1.1 0
  have x2 : W1.cell? ⟨bx, 0, none⟩ = some (.pointer (some ⟨g, 0, none⟩)) := blk_cell H.out.1.2 0
  have c2 : W1.cell? ⟨g, 2, none⟩ = some (.slice A na ca) := blk_cell H.out.2.1.1 2
  clear m0 m1
  obtain ⟨rg, cap, cur, hA, hrow⟩ : ∃ rg cap cur, A = some ⟨rg, 0, none⟩ ∧ na ≤ ca ∧ cap = ca ∧ W1.heap[rg]? = some (.cells cur 5 (0, 0)) := by
    rcases H.out.2.1.2.2 with ⟨hv, hn⟩ | ⟨rg, cap, cur, hv, _, hbk, hle, _⟩
    · rw [List.length_append] at hn; cases hn
    · injection hv with h1 h2 h3
      exact ⟨rg, cap, cur, h1, by omega, h3.symm, hbk⟩
  subst hA
  have hat := H.out.2.1.2.at_ o.length (by rw [List.length_append]; show o.length < o.length + 1; omega)
  rw [show (o ++ [16 * hf]).getD o.length 0 = 16 * hf by simp] at hat
  have r1 : W1.frozen? ⟨rg, o.length, none⟩ = false := blk_frozen hrow.2.2 o.length
  obtain ⟨y, hy⟩ : ∃ y : Int, y = 16 * hf + d := ⟨_, rfl⟩
  have hor := or_nib' hf d hhf hd
  rw [← hy] at hor
  obtain ⟨x, hx⟩ : ∃ x : Int, x = 16 * hf := ⟨_, rfl⟩
  rw [← hx] at hor hat H
  have hdw : IntKind.u8.wrap d = d := by rw [IntKind.wrap_u8]; omega
  have e1 : (na : Int) - 1 = ((o.length : Nat) : Int) := by omega
  have HNA := Aside0.mk hnal
  have HYX := Aside0.mk (And.intro hy hx)
  have hlt : (o.length : Int) < (na : Int) := by omega
  have hge : (0 : Int) ≤ (o.length : Int) := by omega
  have hew : IntKind.i64.wrap (o.length : Int) = (o.length : Int) := IntWalk.i64_in _ (by omega)
  clear hy hx hnal hd hhf
  go_wp2_with fail
  have hrw := H.out.2.1.2.store o.length y
  rw [show (o ++ [x]).set o.length y = o ++ [y] by rw [List.set_append_right (h := Nat.le_refl _)]; simp] at hrw
  have n1 : rg ≠ g := H.out.2.1.2.ne_blk H.out.2.1.1 (by decide) rg rfl
  have n2 : rg ≠ bx := H.out.2.1.2.ne_blk H.out.1.2 (by decide) rg rfl
  have n3 : rg ≠ mb := H.out.2.1.2.ne_blk H.out.1.1 (by decide) rg rfl
  have hB2 := (H.out.2.1.2.lt rg rfl).1
  have HK : Aside0 (ScAt (W1.setCell ⟨rg, o.length, none⟩ (.int .u8 y)) B g s p (o ++ [y]) ∧ Bxs (W1.setCell ⟨rg, o.length, none⟩ (.int .u8 y)) g bx mb (n + 1) ∧ Fr W (W1.setCell ⟨rg, o.length, none⟩ (.int .u8 y)) (SM B g mb W)) :=
    ⟨⟨_, blk_far H.out.2.1.1 (p := ⟨rg, o.length, none⟩) (Ne.symm n1) _, hrw⟩, ⟨blk_far H.out.1.2 (p := ⟨rg, o.length, none⟩) (Ne.symm n2) _, blk_far H.out.1.1 (p := ⟨rg, o.length, none⟩) (Ne.symm n3) _⟩,
      (H.out.2.2.mono (fun _ _ h => .inl h)).trans ((Fr.refl W1 (· = rg)).set1 (g := rg) o.length _) (fun k hk h => by
        subst h
        exact .inr (.inr ⟨hB2, U8c.old H.out.2.2 hk ⟨_, _, hrow.2.2⟩ n3⟩))⟩
  clear hrw n1 n2 n3 hB2
  go_region
  all_goals
    go_wp2_with fail
    go_returns
    obtain ⟨h1, h2, h3⟩ := HK.out
    rw [← HYX.out.1]
    exact ⟨rfl, ⟨h1.blk⟩, ⟨h2.box, h2.many⟩, ⟨h3.os, h3.tape, h3.output, h3.size, h3.block⟩⟩
def hexL (s : ByteArray) : Nat → Nat → List Int → Int → Int × List Int × Nat
  | 0, _, _, _ => (99, [], 0)
  | k + 1, p, o, hf => if p < s.size then
      (if bt s (p : Int) = 62 then (0, if hf < 0 then o else o ++ [16 * hf], p + 1)
       else if 0 ≤ hexF (bt s (p : Int)) then (if hf < 0 then hexL s k (p + 1) o (hexF (bt s (p : Int))) else hexL s k (p + 1) (o ++ [16 * hf + hexF (bt s (p : Int))]) (-1))
       else if kF (bt s (p : Int)) = 0 then hexL s k (p + 1) o hf else (4, [], 0))
    else (5, [], 0)
def halfO (o : List Int) (hf : Int) : List Int := if hf < 0 then o else o ++ [16 * hf]
def halfN (o : List Int) (hf : Int) : Int := if hf < 0 then 2 * (o.length : Int) else 2 * (o.length : Int) + 1
theorem halfO_length (o : List Int) (hf : Int) : (halfO o hf).length ≤ o.length + 1 := by unfold halfO; split; omega; rw [List.length_append]; exact Nat.le_refl _
theorem Tz.stepM {w W W1 : World} {B g z mb : Nat} {s : ByteArray} {p p' : Nat} {o o' : List Int} (h : Tz w W B g z s p o) (h1 : ScAt W1 B g s p' o') (hf : Fr W W1 (SM B g mb W)) (hm : w.heap.size ≤ mb) (hz : z ≠ mb) : Tz w W1 B g z s p' o' :=
  ⟨h1, hf.blk h.zb (by
      rintro (h2 | h2 | ⟨_, cs', fr', hc⟩)
      · exact hz h2
      · exact h.ne h2
      · rw [h.zb] at hc; injection hc with hc; injection hc with _ hc; exact absurd hc (by decide)),
    h.fr.trans hf (fun k hk hs => by
      rcases hs with h2 | h2 | ⟨h2, h3⟩
      · omega
      · exact .inl h2
      · by_cases hn : SC B g w k
        · exact hn
        · exact .inr ⟨h2, U8c.old h.fr hk h3 hn⟩), h.zw, h.ne⟩
theorem Bxs.below {W W1 : World} {g bx mb : Nat} {n : Int} (h : Bxs W g bx mb n) (hb : Below W.heap.size W W1) : Bxs W1 g bx mb n := ⟨blk_below h.box hb, blk_below h.many hb⟩
theorem Bxs.drawn {W W1 : World} {g bx mb : Nat} {n : Int} (h : Bxs W g bx mb n) (hd : Drawn0 W W1) : Bxs W1 g bx mb n := by
  obtain ⟨m, rfl⟩ := hd.out
  exact ⟨h.box, h.many⟩
theorem Bxs.move {W : World} {g bx mb : Nat} {n : Int} {cs : Array Value} (h : Bxs W g bx mb n) (hg : W.heap[g]? = some (.cells cs 47 (0, 0))) (u : Value) : Bxs (W.setCell ⟨g, 1, none⟩ u) g bx mb n := by
  have h1 : bx ≠ g := by
    rintro rfl
    have := h.box; rw [hg] at this; injection this with this; injection this with _ this; exact absurd this (by decide)
  have h2 : mb ≠ g := by
    rintro rfl
    have := h.many; rw [hg] at this; injection this with this; injection this with _ this; exact absurd this (by decide)
  exact ⟨blk_far h.box (p := ⟨g, 1, none⟩) h1 _, blk_far h.many (p := ⟨g, 1, none⟩) h2 _⟩
set_option maxRecDepth 100000 in
set_option maxHeartbeats 8000000 in
theorem hex_calls2 (w : World) (B g : Nat) (s : ByteArray) (p K : Nat) (h : ScAt w B g s p []) (hs : s.size ≤ 60000) (hp : p < s.size) (hB : B ≤ w.heap.size) (hK : s.size < p + 1 + K) :
    Calls Try.prog 31 #[.pointer (some ⟨g, 0, none⟩)] w (TkPost B g s w (tokOf 3 (hexL s K (p + 1) [] (-1)))) := by
  have hb0 := below_alloc (Below.refl w.heap.size w) (.cells #[.pointer (some ⟨g, 0, none⟩)] 44)
  have hb1 := below_alloc hb0 (.cells (tokC 0 0 ⟨#[]⟩ 0 0) 24)
  obtain ⟨bx, hbx⟩ : ∃ q, q = w.heap.size := ⟨_, rfl⟩
  obtain ⟨z, hz⟩ : ∃ q, q = w.heap.size + 1 := ⟨_, rfl⟩
  have hglt := h.lt
  have HT : Aside0 (Tz w ((w.alloc (.cells #[.pointer (some ⟨g, 0, none⟩)] 44)).alloc (.cells (tokC 0 0 ⟨#[]⟩ 0 0) 24)) B g z s p []) := ⟨⟨h.below hb1, by rw [hz]; exact heap_alloc2_new _ _ _, Fr.of_below hb1 _, by omega, by omega⟩⟩
  have HBX : Aside0 (((w.alloc (.cells #[.pointer (some ⟨g, 0, none⟩)] 44)).alloc (.cells (tokC 0 0 ⟨#[]⟩ 0 0) 24)).heap[bx]? = some (.cells #[.pointer (some ⟨g, 0, none⟩)] 44 (0, 0)) ∧ ((w.alloc (.cells #[.pointer (some ⟨g, 0, none⟩)] 44)).alloc (.cells (tokC 0 0 ⟨#[]⟩ 0 0) 24)).heap.size = w.heap.size + 2) := ⟨⟨by rw [hbx]; exact heap_alloc2_old _ _ _, by simp⟩⟩
  have HBZ : Aside0 (bx = w.heap.size ∧ z = w.heap.size + 1 ∧ g < w.heap.size) := ⟨⟨hbx, hz, hglt⟩⟩
  obtain ⟨p1, hp1⟩ : ∃ q, q = p + 1 := ⟨_, rfl⟩
  rw [← hp1] at hK ⊢
  have e1 : (p : Int) + 1 = (p1 : Int) := by omega
  obtain ⟨res, hres⟩ : ∃ res, res = hexL s K p1 [] (-1) := ⟨_, rfl⟩
  rw [← hres]
  have HRES := Aside0.mk hres
  have hp1s : p1 ≤ s.size := by omega
  clear h hres hp1 hb0 hb1 hglt
  go_enter Try.func31, Try.ntmps31
  go_upto_region 1 with fail
  rw [← hz, ← hbx]
  clear hz hbx
  generalize World.alloc (World.alloc w _) _ = W0 at HT HBX ⊢
  obtain ⟨A, n, c, hn, hb, hr, c0, c1, c2, f1, f2⟩ := HT.out.sc.cells
  have x0 : W0.cell? ⟨bx, 0, none⟩ = some (.pointer (some ⟨g, 0, none⟩)) := blk_cell HBX.out.1 0
  have HM := Aside0.mk (HT.out.move p1)
  have HBX1 : Aside0 ((W0.setCell ⟨g, 1, none⟩ (.int .i64 (p1 : Int))).heap[bx]? = some (.cells #[.pointer (some ⟨g, 0, none⟩)] 44 (0, 0)) ∧ (W0.setCell ⟨g, 1, none⟩ (.int .i64 (p1 : Int))).heap.size = w.heap.size + 2) := ⟨blk_far HBX.out.1 (p := ⟨g, 1, none⟩) (by have := HBZ.out; show bx ≠ g; omega) _, by rw [← HBX.out.2]; simp [World.setCell]⟩
  clear hn hb hr c0 c2 f2
  go_upto_region 2 with fail
  generalize World.setCell W0 _ _ = W1 at HM HBX1 ⊢
  clear HT c1 f1 e1 x0 HBX
  go_upto_region 3 with fail
  obtain ⟨mb, hmb⟩ : ∃ q, q = W1.heap.size := ⟨_, rfl⟩
  have hbn := below_alloc (Below.refl W1.heap.size W1) (.cells #[.int .i64 0] 3)
  have HM2 := Aside0.mk (HM.out.below hbn)
  have HX2 : Aside0 (Bxs (W1.alloc (.cells #[.int .i64 0] 3)) g bx mb 0) := ⟨⟨blk_below HBX1.out.1 hbn, by rw [hmb]; exact heap_alloc_new _ _⟩⟩
  have HMB : Aside0 (w.heap.size ≤ mb ∧ z ≠ mb) := ⟨by have h1 := HBX1.out.2; have h2 := HBZ.out; omega⟩
  rw [← hmb]
  clear hmb hbn HM HBX1
  generalize World.alloc W1 _ = W2 at HM2 HX2 ⊢
  have x2 : W2.cell? ⟨bx, 0, none⟩ = some (.pointer (some ⟨g, 0, none⟩)) := blk_cell HX2.out.box 0
  have HKM := Aside0.mk (more_any W2 B g s p1 [] HM2.out.sc (by omega))
  go_wp2_with fail
  refine HKM.out.mono ?_
  rintro e W3 ⟨cx, bx_, rfl, HCX, hd3⟩
  have HM3 := Aside0.mk (HM2.out.drawn hd3)
  have HX3 := Aside0.mk (HX2.out.drawn hd3)
  clear HKM hd3 HM2 HX2 x2
  go_wp2_with fail
  go_loopg [6, 7] K (fun kq v6 v7 wr => ∃ (q : Nat) (o : List Int) (hf n cx : Int) (b : Bool), v6 = .int .u8 cx ∧ v7 = .bool b ∧ Aside0 (cx = (if q < s.size then bt s (q : Int) else 0) ∧ b = decide (q < s.size)) ∧ q ≤ s.size ∧ s.size < q + kq ∧ -1 ≤ hf ∧ hf < 16 ∧ o.length ≤ q ∧ Aside0 (n = halfN o hf) ∧ Aside0 (Tz w wr B g z s q (halfO o hf)) ∧ Aside0 (Bxs wr g bx mb n) ∧ Aside0 (res = hexL s kq q o hf))
  case atStart => exact ⟨p1, [], -1, 0, cx, bx_, rfl, rfl, HCX, hp1s, hK, by decide, by decide, Nat.zero_le _, ⟨rfl⟩, ⟨by rw [show halfO [] (-1) = [] from if_pos (by decide)]; exact HM3.out⟩, HX3, HRES⟩
  case round =>
    clear HRES HM3 HX3
    obtain ⟨q, o, hf, n, cx', b, rfl, rfl, HCB, hq, hk, hf0, hf1, hol, HN, HS, HX, HR⟩ := hrel
    obtain ⟨hc, hb⟩ := HCB.out
    cases gk with
    | zero => exact absurd hk (by omega)
    | succ k1 =>
      have hrec := HR.out
      rw [hexL] at hrec
      by_cases hlt : q < s.size
      · rw [if_pos hlt] at hc hrec
        rw [decide_eq_true hlt] at hb
        subst hb
        have hnr : 0 ≤ n ∧ n ≤ 200000 := by
          have := HN.out
          unfold halfN at this
          split at this <;> omega
        have KK := Aside0.mk (fun W => kind_calls (bt s (q : Int)) W)
        have KH := Aside0.mk (fun W => hex_calls s (q : Int) W)
        have hcr := bt_range s (q : Int)
        have hdr := hexF_range (bt s (q : Int))
        rw [← hc] at KK KH hrec hcr hdr
        have HC := Aside0.mk hc
        obtain ⟨d, hd⟩ : ∃ d, d = hexF cx' := ⟨_, rfl⟩
        rw [← hd] at KH hrec hdr
        have HD := Aside0.mk hd
        obtain ⟨q1, hq1⟩ : ∃ q1, q1 = q + 1 := ⟨_, rfl⟩
        rw [← hq1] at hrec
        have e1 : (q : Int) + 1 = (q1 : Int) := by omega
        have hq1s : q1 ≤ s.size ∧ q < q1 ∧ s.size < q1 + k1 := by omega
        have HREC := Aside0.mk hrec
        obtain ⟨A, na, ca, hna, hb, hr, c0, c1, c2, f1, f2⟩ := HS.out.sc.cells
        have x2 : wr.cell? ⟨bx, 0, none⟩ = some (.pointer (some ⟨g, 0, none⟩)) := blk_cell HX.out.box 0
        have HM := Aside0.mk (HS.out.move q1)
        have HX4 := Aside0.mk (HX.out.move hb (.int .i64 (q1 : Int)))
        clear hrec HR HCB hc hd hq1 hna hb hr c0 c2 f2
        go_upto_region 8 with fail
        generalize World.setCell wr _ _ = W4 at HM HX4 ⊢
        clear c1 f1 e1 x2 HS HX A na ca
        go_upto_block 2 with (first | (go_at_call 46; (with_reducible refine (KH.out _).mono ?_); rintro e w1 ⟨rfl, ⟨nd, rfl⟩⟩))
        have HM5 := Aside0.mk (HM.out.drawn (W1 := W4.drewN nd) ⟨_, rfl⟩)
        have HX5 := Aside0.mk (HX4.out.drawn (W1 := W4.drewN nd) ⟨_, rfl⟩)
        clear HM HX4 KH
        generalize World.drewN W4 nd = W5 at HM5 HX5 ⊢
        have hBW := Nat.le_trans hB HM5.out.fr.size
        go_cut [] (fun wc => ∃ (o' : List Int) (hf' n' : Int), -1 ≤ hf' ∧ hf' < 16 ∧ o'.length ≤ q1 ∧ Aside0 (n' = halfN o' hf') ∧ Aside0 (Tz w wc B g z s q1 (halfO o' hf')) ∧ Aside0 (Bxs wc g bx mb n') ∧ Aside0 (res = hexL s k1 q1 o' hf'))
        case first =>
          by_cases h62 : cx' = 62
          · have t62 : (cx' == 62) = true := beq_iff_eq.2 h62
            have hrec := HREC.out
            rw [if_pos h62] at hrec
            have hrec2 : res = (0, halfO o hf, q1) := hrec
            subst hrec2
            obtain ⟨A, na, ca, hna, hb, hr, c0, c1, c2, f1, f2⟩ := HM5.out.sc.cells
            have hol2 := halfO_length o hf
            have hnl : na ≤ 60001 := by rw [hna.out]; omega
            have s9 : decide ((65535 : Int) < (na : Int)) = false := decide_eq_false (by omega)
            have s9n : decide (65535 < na) = false := decide_eq_false (by omega)
            have x2 : W5.cell? ⟨bx, 0, none⟩ = some (.pointer (some ⟨g, 0, none⟩)) := blk_cell HX5.out.box 0
            generalize halfO o hf = oo at *
            clear hna hb hr c0 c1 f1 f2 hnl hrec HREC h62 hol2
            go_wp2_with fail
            refine (told_calls _ B g s q1 oo 3 HM5.out.sc (by decide)).mono ?_
            rintro e W7 ⟨rfl, ⟨q6, o6, hs6, hq6⟩, hf6⟩
            have HT7 := Aside0.mk (HM5.out.step hs6 hf6)
            obtain rfl := hq6 rfl
            have zb := HT7.out.zb
            obtain ⟨st, hst⟩ : ∃ st, st = strOfNums oo := ⟨_, rfl⟩
            have HST := Aside0.mk hst
            dsimp only
            rw [← hst]
            have HP := HT7.out.put (tokC 3 0 st 0 0)
            clear hs6 hf6 hst hq6
            go_wp2_with (refine wpList_store_rowTo rfl 24 _ _ rfl rfl z (tokC 3 0 st 0 0) rfl rfl 24 _ zb tokInfo rfl (tok_one _ _ _ _ _) ?_)
            repeat (rw [Exit.noGoto_ret])
            exact bodyPost_ret (results_ct rfl _ _ z 24 (tokC 3 0 st 0 0) (0, 0) _ rfl HP.1 Try.underlying24 rfl tokInfo) rfl (TkPost.mk_ (by rw [tokOf_ok, HST.out]; rfl) HP.2.1 (fun h => by rw [tokOf_ok]) HP.2.2)
          · have t62 : (cx' == 62) = false := beq_false_of_ne h62
            have hrec := HREC.out
            rw [if_neg h62] at hrec
            by_cases hd0 : 0 ≤ d
            · have sd : decide (0 ≤ d) = true := decide_eq_true hd0
              rw [if_pos hd0] at hrec
              by_cases hh : hf < 0
              · rw [if_pos hh] at hrec
                have hho : halfO o hf = o := if_pos hh
                have hnn : n = 2 * (o.length : Int) := by rw [HN.out]; exact if_pos hh
                have KT := Aside0.mk (take_even W5 B g bx mb s q1 n d o (by rw [← hho]; exact HM5.out.sc) HX5.out ⟨hd0, by omega⟩ hnr (by omega) (by omega) hBW)
                have HR3 := Aside0.mk hrec
                have HNN : Aside0 (n + 1 = halfN o d) := ⟨by rw [hnn]; exact (if_neg (by omega)).symm⟩
                have hdh : halfO o d = o ++ [16 * d] := if_neg (by omega)
                rw [← hdh] at KT
                clear hrec HREC hho hnn hdh HN
                go_wp2_with fail
                refine KT.out.mono ?_
                rintro e W6 ⟨rfl, hs6, hx6, hf6⟩
                have HT6 := Aside0.mk (HM5.out.stepM hs6 hf6 HMB.out.1 HMB.out.2)
                clear hs6 hf6 KT HM5 HX5
                go_wp2_with fail
                go_meet
                exact ⟨o, d, n + 1, by omega, by omega, by omega, HNN, HT6, ⟨hx6⟩, HR3⟩
              · rw [if_neg hh] at hrec
                have hho : halfO o hf = o ++ [16 * hf] := if_neg hh
                have hnn : n = 2 * (o.length : Int) + 1 := by rw [HN.out]; exact if_neg hh
                have KT := Aside0.mk (take_odd W5 B g bx mb s q1 n d hf o (by rw [← hho]; exact HM5.out.sc) ⟨by omega, hf1⟩ HX5.out ⟨hd0, by omega⟩ hnr (by omega) (by omega) hBW)
                have HR3 := Aside0.mk hrec
                have hll : (o ++ [16 * hf + d]).length = o.length + 1 := by rw [List.length_append]; rfl
                have HNN : Aside0 (n + 1 = halfN (o ++ [16 * hf + d]) (-1)) := ⟨by rw [hnn, show halfN (o ++ [16 * hf + d]) (-1) = 2 * ((o ++ [16 * hf + d]).length : Int) from if_pos (by decide), hll]; omega⟩
                have hdh : halfO (o ++ [16 * hf + d]) (-1) = o ++ [16 * hf + d] := if_pos (by decide)
                rw [← hdh] at KT
                have hol3 : (o ++ [16 * hf + d]).length ≤ q1 := by omega
                clear hrec HREC hho hnn hdh HN hll
                go_wp2_with fail
                refine KT.out.mono ?_
                rintro e W6 ⟨rfl, hs6, hx6, hf6⟩
                have HT6 := Aside0.mk (HM5.out.stepM hs6 hf6 HMB.out.1 HMB.out.2)
                clear hs6 hf6 KT HM5 HX5
                go_wp2_with fail
                go_meet
                exact ⟨o ++ [16 * hf + d], -1, n + 1, by decide, by decide, hol3, HNN, HT6, ⟨hx6⟩, HR3⟩
            · have sd : decide (0 ≤ d) = false := decide_eq_false hd0
              rw [if_neg hd0] at hrec
              by_cases hk0 : kF cx' = 0
              · rw [hk0] at KK
                rw [if_pos hk0] at hrec
                have HR3 := Aside0.mk hrec
                have hol3 : o.length ≤ q1 := by omega
                clear hrec HREC hk0
                go_wp2_with (first | (go_at_call 40; (with_reducible refine (KK.out _).mono ?_); rintro e w1 ⟨rfl, ⟨nd2, rfl⟩⟩))
                go_meet
                exact ⟨o, hf, n, hf0, hf1, hol3, HN, ⟨HM5.out.drawn ⟨_, rfl⟩⟩, ⟨HX5.out.drawn ⟨_, rfl⟩⟩, HR3⟩
              · rw [if_neg hk0] at hrec
                subst hrec
                have sk : (kF cx' != 0) = true := bne_iff_ne.2 hk0
                clear HREC
                go_wp2_with (first | (go_at_call 40; (with_reducible refine (KK.out _).mono ?_); rintro e w1 ⟨rfl, ⟨nd2, rfl⟩⟩))
                generalize hW6 : World.drewN W5 _ = W6
                have HM6 := Aside0.mk (HM5.out.drawn (W1 := W6) ⟨_, hW6.symm⟩)
                clear hW6 HM5
                go_wp2_with fail
                refine (bad_calls 4 _).mono ?_
                rintro e W7 ⟨rfl, hb6⟩
                have HT6 := Aside0.mk (HM6.out.below hb6)
                have zb := HT6.out.zb
                have HP := HT6.out.put (tokC 0 0 ⟨#[]⟩ 0 0)
                clear hb6
                go_wp2_with (refine wpList_store_rowTo rfl 24 _ _ rfl rfl z (tokC 0 0 ⟨#[]⟩ 0 0) rfl rfl 24 _ zb tokInfo rfl (tok_one _ _ _ _ _) ?_)
                repeat (rw [Exit.noGoto_ret])
                exact bodyPost_ret (results_ct rfl _ _ z 24 (tokC 0 0 ⟨#[]⟩ 0 0) (0, 0) _ rfl HP.1 Try.underlying24 rfl tokInfo) rfl (TkPost.mk_ rfl HP.2.1 (fun h => absurd h (by decide)) HP.2.2)
        case rest =>
          obtain ⟨o', hf', n', hf0', hf1', hol', HN', HT', HX', HR'⟩ := hcut
          have hnr' : 0 ≤ n' ∧ n' ≤ 200000 := by
            have := HN'.out
            unfold halfN at this
            split at this <;> omega
          have hnr2 : n' / 2 ≤ 60000 := by
            have := HN'.out
            unfold halfN at this
            split at this <;> omega
          have m2 : wc.cell? ⟨mb, 0, none⟩ = some (.int .i64 n') := blk_cell HX'.out.many 0
          have s9 : decide ((65535 : Int) < n' / 2) = false := decide_eq_false (by omega)
          have x2 : wc.cell? ⟨bx, 0, none⟩ = some (.pointer (some ⟨g, 0, none⟩)) := blk_cell HX'.out.box 0
          have KM := Aside0.mk (more_any wc B g s q1 (halfO o' hf') HT'.out.sc (by omega))
          clear HM5 HX5 HREC HN
          go_wp2_with fail
          refine KM.out.mono ?_
          rintro e W6 ⟨cy, by_, rfl, HCY, hd6⟩
          have HT6 := Aside0.mk (HT'.out.drawn hd6)
          have HX6 := Aside0.mk (HX'.out.drawn hd6)
          clear hd6 HT' HX' KM m2 x2
          go_wp2_with fail
          go_roundg k1
          case measure => omega
          case rel => exact ⟨q1, o', hf', n', cy, by_, rfl, rfl, HCY, hq1s.1, hq1s.2.2, hf0', hf1', hol', HN', HT6, HX6, HR'⟩
      · rw [if_neg hlt] at hc hrec
        rw [decide_eq_false hlt] at hb
        subst hc hb
        subst hrec
        clear HCB
        go_wp2_with fail
        refine (bad_calls 5 _).mono ?_
        rintro e W6 ⟨rfl, hb6⟩
        have HT6 := Aside0.mk (HS.out.below hb6)
        have zb := HT6.out.zb
        have HP := HT6.out.put (tokC 0 0 ⟨#[]⟩ 0 0)
        clear hb6
        go_wp2_with (refine wpList_store_rowTo rfl 24 _ _ rfl rfl z (tokC 0 0 ⟨#[]⟩ 0 0) rfl rfl 24 _ zb tokInfo rfl (tok_one _ _ _ _ _) ?_)
        repeat (rw [Exit.noGoto_ret])
        exact bodyPost_ret (results_ct rfl _ _ z 24 (tokC 0 0 ⟨#[]⟩ 0 0) (0, 0) _ rfl HP.1 Try.underlying24 rfl tokInfo) rfl (TkPost.mk_ rfl HP.2.1 (fun h => absurd h (by decide)) HP.2.2)
end Go.Proofs.Ytkmmmlbppobifaa.Hand
