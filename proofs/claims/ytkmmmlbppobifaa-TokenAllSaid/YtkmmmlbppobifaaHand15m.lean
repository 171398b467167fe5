/- token.Many: a loop over the iterator token.All. -/
import Derived.Test.YtkmmmlbppobifaaHand15i
namespace Go.Proofs.Ytkmmmlbppobifaa.Hand
open Go.RowKit Go.Shelf Go.Proofs.YtkmmmlbppobifaaW.PrintWords Go.Proofs.YtkmmmlbppobifaaW.PrintLast Go.Proofs.YtkmmmlbppobifaaW.PrintMore Go.Proofs.Ytkmmmlbppobifaa.Num Go.Proofs.Ytkmmmlbppobifaa.P01a
set_option linter.unusedVariables false
set_option linter.unusedSimpArgs false
attribute [local go_sem] Oper.semAt_some
def cntL : List (Int × Tok) → Int → Int × Int
 | [], n => (n, 0)
 | x :: xs, n => if x.1 ≠ 0 then (n, x.1) else cntL xs (if x.2.kind ≠ 0 then n + 1 else n)
def okT (l : List (Int × Tok)) : Nat := l.countP (fun y => decide (y.2.kind ≠ 0))
theorem okT_snoc (l : List (Int × Tok)) (x : Int × Tok) : okT (l ++ [x]) = okT l + (if x.2.kind ≠ 0 then 1 else 0) := by
 unfold okT
 rw [List.countP_append, List.countP_singleton]
 by_cases h : x.2.kind = 0
 ·simp [h]
 ·simp [h]
theorem okT_le (l : List (Int × Tok)) : okT l ≤ l.length := List.countP_le_length
theorem cntL_pre : ∀ (p l : List (Int × Tok)) (n : Int), (∀ y ∈ p, y.1 = 0) → cntL (p ++ l) n = cntL l (n + (okT p : Int))
 | [], l, n, _ => by simp [okT]
 | x :: p, l, n, h => by
  rw [List.cons_append, cntL, if_neg (by rw [h x (by simp)]; decide), cntL_pre p l _ (fun y hy => h y (by simp [hy]))]
  congr 1
  have : okT (x :: p) = okT p + (if x.2.kind ≠ 0 then 1 else 0) := by
   unfold okT
   rw [List.countP_cons]
   by_cases hx : x.2.kind = 0
   ·simp [hx]
   ·simp [hx]
  rw [this]
  split <;> omega
theorem snoc0 {pre : List (Int × Tok)} {x : Int × Tok} (h : ∀ y ∈ pre, y.1 = 0) (hx : x.1 = 0) : ∀ y ∈ pre ++ [x], y.1 = 0 := fun y hy => by
 rcases List.mem_append.1 hy with h1 | h1
 ·exact h y h1
 ·rw [List.mem_singleton.1 h1]; exact hx
theorem keepT_alloc (Bn : Nat) (s : ByteArray) (W : World) (o : Obj) : KeepT Bn s W (W.alloc o) :=
 ⟨fun h => (World.cell?_of_block ((below_alloc (Below.refl W.heap.size W) o).block Bn (cell_lt h))).trans h, fun k cs _ e => blk_alloc e o⟩
theorem keepT_set {Bn g : Nat} {s : ByteArray} {W : World} {cs : Array Value} {t : TypeId} {fr : Nat × Nat} (h : W.heap[g]? = some (.cells cs t fr)) (ht : t ≠ 24) (hg : Bn ≠ g) (i : Nat) (v : Value) : KeepT Bn s W (W.setCell ⟨g, i, none⟩ v) :=
 ⟨fun e => (World.cell?_of_block ((Fr.refl W (· = g)).set1 (g := g) i v |>.block Bn (cell_lt e) hg)).trans e, fun k cs' _ e => blk_far e (p := ⟨g, i, none⟩) (fun hk => by
  subst hk
  rw [h] at e
  injection e with e
  injection e with _ e
  exact ht e) v⟩
set_option maxRecDepth 100000 in
set_option maxHeartbeats 8000000 in
theorem many_in (n : Nat) (hn : 3 ≤ n) (s : ByteArray) (hs : s.size ≤ 60000) (w : World) :
  CallsIn Fence.wide n Try.prog 15 #[.string s] w fun e W' => e = .returned (.tuple #[.int .i64 (cntL (toksN s) 0).1, .int .i64 (cntL (toksN s) 0).2]) ∧ Below w.heap.size w W' := by
 have h1 : 1 ≤ n := by omega
 have hmix : Try.prog.follows Departure.mixedOrders = true := by kernel_rfl
 refine callsIn_of_wp_marks Try.func15 rfl trivial ?_ rfl
 simp only [Try.ntmps15, List.size_toArray, List.length_cons, List.length_nil, Nat.reduceAdd, Nat.reduceSub, Array.replicate_succ, Array.replicate_zero, List.push_toArray, List.append_toArray, List.nil_append, List.cons_append]
 gi_wp2_with (first | (refine ⟨trivial, ?_⟩; gi_at_call 12; refine callsIn_wide.2 ((All_calls s _).mono ?_); rintro e w' ⟨rfl, rfl⟩))
 obtain ⟨b, hb⟩ : ∃ b, b = w.heap.size := ⟨_, rfl⟩
 have p0 := (((Boxed.new w 3 (.int .i64 0)).alloc (.cells #[.int .i64 0] 25)).alloc (.cells #[.int .i64 0] 3)).alloc (.cells #[.string s] 9)
 have p1 := ((Boxed.new (w.alloc (.cells #[.int .i64 0] 3)) 25 (.int .i64 0)).alloc (.cells #[.int .i64 0] 3)).alloc (.cells #[.string s] 9)
 have p2 := (Boxed.new ((w.alloc (.cells #[.int .i64 0] 3)).alloc (.cells #[.int .i64 0] 25)) 3 (.int .i64 0)).alloc (.cells #[.string s] 9)
 have p3 := Boxed.new (((w.alloc (.cells #[.int .i64 0] 3)).alloc (.cells #[.int .i64 0] 25)).alloc (.cells #[.int .i64 0] 3)) 9 (.string s)
 simp only [World.size_alloc] at p1 p2 p3
 have hB0 := below_alloc (below_alloc (below_alloc (below_alloc (Below.refl w.heap.size w) (.cells #[.int .i64 0] 3)) (.cells #[.int .i64 0] 25)) (.cells #[.int .i64 0] 3)) (.cells #[.string s] 9)
 obtain ⟨w5, hw5⟩ : ∃ w5, w5 = (((w.alloc (.cells #[.int .i64 0] 3)).alloc (.cells #[.int .i64 0] 25)).alloc (.cells #[.int .i64 0] 3)).alloc (.cells #[.string s] 9) := ⟨_, rfl⟩
 rw [← hw5] at p0 p1 p2 p3 hB0 ⊢
 have hsz : w5.heap.size = w.heap.size + 1 + 1 + 1 + 1 := by rw [hw5]; simp only [World.size_alloc]
 clear hw5
 refine wpIn_rangeFunc_ownH rfl h1 (gf := 26) (lb := #[.pointer (some ⟨w.heap.size + 1 + 1 + 1, 0, none⟩)]) rfl trivial (enters_of Try.func26 (by kernel_rfl) rfl)
  (all_stops (n - 1) (by omega) (w.heap.size + 1 + 1 + 1) s hs w5 (by omega) p3.cell) keepT_t (fun W l o o' a b c d => keepT_b (w := w5) W l o o' a b c d) (Below.refl _ _) (fun _ => rfl)
  (fun pre W => ((∀ y ∈ pre, y.1 = 0) ∧ Boxed W w.heap.size 3 (.int .i64 0) ∧ Boxed W (w.heap.size + 1) 25 (.int .i64 0) ∧ Boxed W (w.heap.size + 1 + 1) 3 (.int .i64 (okT pre : Int))) ∧ Below w.heap.size w W)
  (fun c pre W => (c = .ret ∧ ∃ p x, pre = p ++ [x] ∧ (∀ y ∈ p, y.1 = 0) ∧ x.1 ≠ 0 ∧ Boxed W w.heap.size 3 (.int .i64 (okT p : Int)) ∧ Boxed W (w.heap.size + 1) 25 (.int .i64 x.1)) ∧ Below w.heap.size w W)
  (OwnFrom.and (Own.from (fun pre A B row hs hg hr => ⟨hs.1, boxed_own w.heap.size 3 (fun _ : List (Int × Tok) => .int .i64 0) pre A B row hs.2.1 hg hr, boxed_own (w.heap.size + 1) 25 (fun _ : List (Int × Tok) => .int .i64 0) pre A B row hs.2.2.1 hg hr, boxed_own (w.heap.size + 1 + 1) 3 (fun _ : List (Int × Tok) => .int .i64 (okT pre : Int)) pre A B row hs.2.2.2 hg hr⟩) _) (ownFrom_below (Nat.le_refl _) (by omega)))
  (fun c => OwnFrom.and (Own.from (fun pre A B row hs hg hr => ⟨hs.1, by
   obtain ⟨_, p, x, h1, h2, h3, h4, h5⟩ := hs
   exact ⟨p, x, h1, h2, h3, boxed_own w.heap.size 3 (fun _ : List (Int × Tok) => .int .i64 (okT p : Int)) pre A B row h4 hg hr, boxed_own (w.heap.size + 1) 25 (fun _ : List (Int × Tok) => .int .i64 x.1) pre A B row h5 hg hr⟩⟩) _) (ownFrom_below (Nat.le_refl _) (by omega)))
  ⟨⟨by simp, p0, p1, p2⟩, hB0⟩
  (fun x a' W => ∃ g : Nat, a' = { tmps := #[.string s, undef, .pointer (some ⟨w.heap.size, 0, none⟩), .pointer (some ⟨w.heap.size + 1, 0, none⟩), .pointer (some ⟨w.heap.size + 1 + 1, 0, none⟩), .pointer (some ⟨g, 0, none⟩), .int .i64 x.1, .string s, .func (.func 26) #[] #[.pointer (some ⟨w.heap.size + 1 + 1 + 1, 0, none⟩)], .agg x.2.cells, .int .i64 x.1, undef, undef, undef, undef, undef, undef, undef, undef, undef, undef, undef, undef], defers := [] } ∧ W.heap[g]? = some (.cells x.2.cells 24 (0, 0)))
  ?ax ?assign ?body ?done ?stop
 case ax =>
  rintro x a' _ A B row ⟨g, h1, h2⟩ hg hr
  refine ⟨g, h1, (hg.block g (blk_lt h2) (fun e => ?_)).trans h2⟩
  obtain ⟨_, o, ho, hc⟩ := hr g e.symm
  rw [h2] at ho
  injection ho with ho
  subst ho
  cases hc
 case assign =>
  rintro l pre x W K ⟨⟨hc, b0, b1, b2⟩, hB⟩ hK
  gi_wp2
  exact hK _ _ ((KeepsOthers.alloc W _).from _) (keepT_alloc _ _ _ _) ⟨⟨hc, b0.alloc _, b1.alloc _, b2.alloc _⟩, below_alloc hB _⟩ ⟨_, rfl, heap_alloc_new W (.cells x.2.cells 24)⟩
 case body =>
  clear p0 p1 p2 p3 hB0
  rintro l pre x a' W hl hlr ⟨⟨hc, b0, b1, b2⟩, hB⟩ ⟨g, rfl, hg⟩ hlen
  have c2 := b2.cell
  have hok := okT_le pre
  obtain ⟨k, hk⟩ : ∃ k, k = okT pre := ⟨_, rfl⟩
  rw [← hk] at b2 c2 hok
  have HK := Aside0.mk hk
  obtain ⟨xc, tk⟩ := x
  dsimp only at hg ⊢
  have g0 : W.cell? ⟨g, 0, none⟩ = some (.int .i64 tk.kind) := blk_cell hg 0
  clear hk
  by_cases h0 : xc = 0
  ·subst h0
   by_cases hkd : tk.kind = 0
   ·rw [hkd] at g0
    have hsn := okT_snoc pre ((0 : Int), tk)
    rw [if_neg (fun h => h hkd), ← HK.out] at hsn
    have HS := Aside0.mk hsn
    clear hsn
    gi_wp2
    exact ⟨KeepsFrom.refl _ _, ⟨fun e => e, fun _ _ _ e => e⟩, ⟨snoc0 hc rfl, b0, b1, by rw [HS.out, Nat.add_zero]; exact b2⟩, hB⟩
   ·have t0 : (tk.kind != 0) = true := bne_iff_ne.2 hkd
    have hsn := okT_snoc pre ((0 : Int), tk)
    rw [if_pos hkd, ← HK.out] at hsn
    have HS := Aside0.mk hsn
    have f2 := b2.frozen
    clear hsn
    gi_wp2
    have e1 : ((k + 1 : Nat) : Int) = (k : Int) + 1 := by omega
    exact ⟨(KeepsOthers.setCell W _ _).from _, keepT_set b2 (by decide) (by omega) 0 _, ⟨snoc0 hc rfl, b0.other (by omega) _, b1.other (by omega) _, by rw [HS.out, e1]; exact blk_set b2 0 _⟩, hB.setCell (p := ⟨w.heap.size + 1 + 1, 0, none⟩) (by show w.heap.size ≤ w.heap.size + 1 + 1; omega) _⟩
  ·have t0 : (xc != 0) = true := bne_iff_ne.2 h0
   have c0 := b0.cell
   have c1 := b1.cell
   have f0 := b0.frozen
   have f1 := b1.frozen
   gi_wp2
   have q0 : Boxed (W.setCell ⟨w.heap.size, 0, none⟩ (.int .i64 (k : Int))) w.heap.size 3 (.int .i64 (k : Int)) := blk_set b0 0 _
   have q1 : Boxed (W.setCell ⟨w.heap.size, 0, none⟩ (.int .i64 (k : Int))) (w.heap.size + 1) 25 (.int .i64 0) := b1.other (by omega) _
   have q2 : Boxed ((W.setCell ⟨w.heap.size, 0, none⟩ (.int .i64 (k : Int))).setCell ⟨w.heap.size + 1, 0, none⟩ (.int .i64 xc)) (w.heap.size + 1) 25 (.int .i64 xc) := blk_set q1 0 _
   exact ⟨((KeepsOthers.setCell W _ _).trans (KeepsOthers.setCell _ _ _)).from _, ⟨rfl, pre, (xc, tk), rfl, hc, h0, by rw [← HK.out]; exact q0.other (by omega) _, q2⟩, (hB.setCell (p := ⟨w.heap.size, 0, none⟩) (Nat.le_refl _) _).setCell (p := ⟨w.heap.size + 1, 0, none⟩) (Nat.le_succ _) _⟩
 case done =>
  rintro D ys W hD rfl ⟨⟨hc, b0, b1, b2⟩, hB⟩ hK
  have c0 := b0.cell
  have c1 := b1.cell
  have f0 := b0.frozen
  have f1 := b1.frozen
  have c2 := b2.cell
  gi_wp2
  have hres : cntL (toksN s) 0 = ((okT (toksN s) : Int), 0) := by
   have h := cntL_pre (toksN s) [] 0 hc
   rw [List.append_nil, cntL, Int.zero_add] at h
   exact h
  rw [hres]
  generalize okT (toksN s) = k at *
  have hK2 := ((KeepsOthers.setCell W ⟨w.heap.size, 0, none⟩ (.int .i64 (k : Int))).trans (KeepsOthers.setCell _ ⟨w.heap.size + 1, 0, none⟩ (.int .i64 0))).same D _ hK rfl
  have q0 : Boxed (W.setCell ⟨w.heap.size, 0, none⟩ (.int .i64 (k : Int))) w.heap.size 3 (.int .i64 (k : Int)) := blk_set b0 0 _
  have q1 : Boxed (W.setCell ⟨w.heap.size, 0, none⟩ (.int .i64 (k : Int))) (w.heap.size + 1) 25 (.int .i64 0) := b1.other (by omega) _
  have q2 : Boxed ((W.setCell ⟨w.heap.size, 0, none⟩ (.int .i64 (k : Int))).setCell ⟨w.heap.size + 1, 0, none⟩ (.int .i64 0)) (w.heap.size + 1) 25 (.int .i64 0) := blk_set q1 0 _
  have q3 := q0.other (B' := w.heap.size + 1) (by omega) (.int .i64 0)
  have hB2 := (hB.setCell (p := ⟨w.heap.size, 0, none⟩) (Nat.le_refl _) (.int .i64 (k : Int))).setCell (p := ⟨w.heap.size + 1, 0, none⟩) (Nat.le_succ _) (.int .i64 0)
  generalize World.setCell (World.setCell W _ _) _ _ = W2 at *
  refine ⟨by simp, .inl ⟨_, _, rfl, run_takeDeferred hK2, ?_⟩⟩
  have r0 := cell_kept q3.cell (grownBy_putObj' W2 D (.deferred none)) (fun r e => by cases e; exact ⟨_, hK2, rfl⟩)
  have r1 := cell_kept q2.cell (grownBy_putObj' W2 D (.deferred none)) (fun r e => by cases e; exact ⟨_, hK2, rfl⟩)
  refine ⟨.tuple #[.int .i64 (k : Int), .int .i64 0], ?_, rfl, hB2.trans (belowK_b (w := w) (Nat.le_refl _) _ D _ _ (by omega) hK2 rfl rfl)⟩
  simp [results, Try.f15, go_sem, r0, r1]
 case stop =>
  rintro D c pre W hD hpre ⟨⟨rfl, p, x, rfl, h2, h3, h4, h5⟩, hB⟩ hK
  have c4 := h4.cell
  have c5 := h5.cell
  gi_wp2
  have hres : cntL (toksN s) 0 = ((okT p : Int), x.1) := by
   obtain ⟨ys, hy⟩ := hpre
   have h := cntL_pre p ([x] ++ ys) 0 h2
   rw [← List.append_assoc, hy, Int.zero_add] at h
   rw [h, List.singleton_append, cntL, if_pos h3]
  rw [hres]
  refine ⟨by simp, .inl ⟨_, _, rfl, run_takeDeferred hK, ?_⟩⟩
  have r0 := cell_kept c4 (grownBy_putObj' W D (.deferred none)) (fun r e => by cases e; exact ⟨_, hK, rfl⟩)
  have r1 := cell_kept c5 (grownBy_putObj' W D (.deferred none)) (fun r e => by cases e; exact ⟨_, hK, rfl⟩)
  refine ⟨.tuple #[.int .i64 (okT p : Int), .int .i64 x.1], ?_, rfl, hB.trans (belowK_b (w := w) (Nat.le_refl _) _ D _ _ (by omega) hK rfl rfl)⟩
  simp [results, Try.f15, go_sem, r0, r1]
theorem Many_calls (s : ByteArray) (hs : s.size ≤ 60000) (w : World) :
  Calls Try.prog 15 #[.string s] w fun e W' => e = .returned (.tuple #[.int .i64 (cntL (toksN s) 0).1, .int .i64 (cntL (toksN s) 0).2]) ∧ Below w.heap.size w W' :=
 callsIn_wide.1 (many_in 3 (by omega) s hs w)
end Go.Proofs.Ytkmmmlbppobifaa.Hand
