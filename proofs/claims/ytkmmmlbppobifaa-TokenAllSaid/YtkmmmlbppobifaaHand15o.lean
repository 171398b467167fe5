/- The law's own 'told': a loop over the iterator token.All that appends the tokens. -/
import Derived.Maps.AppendAt
import Derived.MapKept
import Derived.Test.YtkmmmlbppobifaaLem15T
namespace Go.Proofs.Ytkmmmlbppobifaa.Hand
open Go.RowKit Go.Shelf Go.Proofs.YtkmmmlbppobifaaW.PrintWords Go.Proofs.YtkmmmlbppobifaaW.PrintLast Go.Proofs.YtkmmmlbppobifaaW.PrintMore Go.Proofs.Ytkmmmlbppobifaa.Num Go.Proofs.Ytkmmmlbppobifaa.P01a
set_option linter.unusedVariables false
set_option linter.unusedSimpArgs false
attribute [local go_sem] Oper.semAt_some
theorem infoTok : (Try.prog.info? 24).map (fun i => (i.zero, i.size, i.bytes)) = some (some (.agg #[.int .i64 0, .int .i64 0, .string ⟨#[]⟩, .int .i64 0, .int .i64 0]), 5, 48) := by kernel_rfl
theorem wpListIn_load_row {F : Fence} {n : Nat} {P : Program} {ops : Array Oper} {rest : List Oper} {o : Oper} {a : Act} {w : World} {Q : Exit → Act → World → Prop} (hgd : o.guard = none) (ty : TypeId) (x : Operand) (ho : o.op = .load ty x)
  (g : Nat) (hx : a.eval x = .pointer (some ⟨g, 0, none⟩)) (t : TypeId) (cs : Array Value) (fr : Nat × Nat) (d : TypeDesc) (hg : w.heap[g]? = some (.cells cs t fr))
  (hu : P.underlying ty = some d) (hd : (match d with | .struct _ | .array _ _ => true | _ => false) = true) (hi : (P.info? ty).map (·.size) = some cs.size)
  (h : wpListIn F n P ops Q rest (a.put o.dst (.agg cs)) w) : wpListIn F n P ops Q (o :: rest) a w := by
 refine wpListIn_plain hgd fun K hK' => ?_
 unfold Oper.wpIn
 refine ⟨?_, ?_⟩
 ·simp [Oper.about, ho]
 ·rw [Oper.semAt_plain F _ _ (by rw [ho]; intro c hc'; cases hc')]
  simp [execOp, ho, hx, Instr.loadAt, Instr.sureAddr, Result.andThen, run_loadVar_row w g t ty cs fr d hg hu hd hi]
  exact hK' _ _ h
theorem wpListIn_app {F : Fence} {n : Nat} {P : Program} {ops : Array Oper} {rest : List Oper} {o : Oper} {a : Act} {w : World} {Q : Exit → Act → World → Prop} (hgd : o.guard = none) (s x : Operand) (t : TypeId)
  (ho : o.op = .call { callee := .builtin .append, args := #[s, x], argTypes := #[t, t] }) (v sv : Value) (hs : a.eval s = v) (hx : a.eval x = sv) (v' : Value) (w' : World)
  (hrun : (Builtin.append_ #[t, t] o.type #[v, sv]).run P w = .ok v' w') (h : wpListIn F n P ops Q rest (a.put o.dst v') w') : wpListIn F n P ops Q (o :: rest) a w := by
 refine wpListIn_plain hgd fun K hK' => ?_
 unfold Oper.wpIn
 refine ⟨?_, ?_⟩
 ·simp [Oper.about, ho, resolve, Target.leads, Sem.run_pure]
 ·rw [Oper.semAt_plain F _ _ (by rw [ho]; intro c hc'; cases hc')]
  simp [execOp, ho, resolve, invoke, builtin, hs, hx, hrun, Result.andThen]
  exact hK' _ _ h
theorem tok_eq (t u : Tok) (b : Bool) (hb : b = true ↔ t = u) (W : World) : (Op.equalIn 10000 24 (.agg t.cells) (.agg u.cells)).run Try.prog W = .ok b W := by
 obtain ⟨k1, n1, s1, a1, e1⟩ := t
 obtain ⟨k2, n2, s2, a2, e2⟩ := u
 rw [show (10000 : Nat) = 9999 + 1 from rfl]
 have hd : b = (decide (k1 = k2) && (decide (n1 = n2) && (decide (s1 = s2) && (decide (a1 = a2) && decide (e1 = e2))))) := by
  rw [Bool.eq_iff_iff, hb]
  simp only [decide_eq_true_eq, Bool.and_eq_true, Tok.mk.injEq]
 rw [hd]
 refine eqA_of Try.underlying24 (by kernel_rfl) ?_
 have ei : ∀ (x y : Int), (Op.equalIn 9999 3 (.int .i64 x) (.int .i64 y)).run Try.prog W = .ok (decide (x = y)) W := fun x y => by
  rw [show (9999 : Nat) = 9998 + 1 from rfl, Op.equalIn]
  simp [go_sem]
  try rfl
 have es : ∀ (x y : ByteArray), (Op.equalIn 9999 9 (.string x) (.string y)).run Try.prog W = .ok (decide (x = y)) W := fun x y => by
  rw [show (9999 : Nat) = 9998 + 1 from rfl, Op.equalIn]
  simp [go_sem]
  rw [Bool.eq_iff_iff, decide_eq_true_iff]
  exact Go.MapKept.bytes_beq x y
 refine eqf_cons rfl rfl rfl (ei _ _) ?_
 refine eqf_cons rfl rfl rfl (ei _ _) ?_
 refine eqf_cons rfl rfl rfl (es _ _) ?_
 refine eqf_cons rfl rfl rfl (ei _ _) ?_
 exact eqf_last rfl rfl rfl (ei _ _)
theorem app_tok (ty : TypeId) (base : Nat) (w : World) (g k c : Nat) (xs : List Value) (hc0 : k = 0 → c = 0) (hown : w.ownsRow base 24 5 (.slice (some ⟨g, 0, none⟩) k c) k xs)
  (a : Addr) (news : List Value) (hl : news.length = 5) (hnews : ∀ j u, news[j]? = some u → w.cell? (a.add j) = some u) (h1 : ∀ u ∈ news, u.oneCell' = true) (hk : k ≤ 1000000) (hbase : base ≤ w.heap.size) :
  ∃ v' w', (Builtin.append_ #[35, 35] ty #[.slice (some ⟨g, 0, none⟩) k c, .slice (some a) 1 1]).run Try.prog w = .ok v' w' ∧ w'.ownsRow base 24 5 v' (k + 1) (xs ++ news) ∧ w.grownBy w' (some g) ∧
   ∀ (j : Nat) (cs : Array Value), cs.size = 5 → w.heap[j]? = some (.cells cs 24 (0, 0)) → w'.heap[j]? = some (.cells cs 24 (0, 0)) := by
 obtain ⟨i0, hi, hz0, hz1, hz2⟩ := info_parts infoTok
 obtain ⟨v', w', hr, h2, h3, _⟩ := run_append_own (P := Try.prog) w base 35 ty 24 i0 _ 5 48 Try.underlying35 hi hz0 hz1 hz2 rfl (by decide) (.slice (some ⟨g, 0, none⟩) k c) k xs hown a 1 1 news (by omega) hnews h1 (by unfold maxLen; omega) (by omega) hbase
 refine ⟨v', w', hr, h2, h3, fun j cs hcs e => ?_⟩
 have hj : j < w.heap.size := by
  rcases Nat.lt_or_ge j w.heap.size with h | h
  ·exact h
  ·rw [Array.getElem?_eq_none h] at e; cases e
 by_cases hjg : j = g
 ·subst hjg
  rcases hown.2 with ⟨h0, _⟩ | ⟨g', cap, cur, h0, _, hg, hn, _, hs, _⟩
  ·cases h0
  ·injection h0 with h0 _ h02
   injection h0 with h0
   injection h0 with h0
   subst h0
   subst h02
   rw [e] at hg
   injection hg with hg
   injection hg with hg
   subst hg
   have hc1 : c = 1 := by omega
   subst hc1
   obtain rfl : k = 1 := by rcases Nat.lt_or_ge k 1 with h | h <;> omega
   have hg2 := run_append_grow (P := Try.prog) w 35 ty 24 i0 _ Try.underlying35 hi hz0 ⟨j, 0, none⟩ 1 1 xs (by rw [hz1]; exact hown.1) (hown.cells (g := j) rfl) a 1 1 news (by rw [hz1]; omega) hnews (by omega) (by omega) (growslice_fits (by omega) (by rw [hz2]; omega))
   rw [hr] at hg2
   injection hg2 with hg2 hg3
   rw [hg3]
   exact (Below.heap_alloc w.drew _ j hj).trans e
 ·exact (h3.block j hj (fun h => hjg (by injection h))).trans e
theorem tok_row (W : World) (base : Nat) (h : base ≤ W.heap.size) : (W.alloc (.cells #[] 24)).ownsRow base 24 5 (.slice (some ⟨W.heap.size, 0, none⟩) 0 0) 0 (tokCells (oksL [])) :=
 ⟨rfl, .inr ⟨W.heap.size, 0, #[], rfl, h, heap_alloc_new W _, Nat.le_refl _, by unfold maxLen; omega, rfl, rfl⟩⟩
theorem tok_cells_new (W : World) (t : Tok) : ∀ j u, t.cells.toList[j]? = some u → (W.alloc (.cells t.cells 24)).cell? ((⟨W.heap.size, 0, none⟩ : Addr).add j) = some u := fun j u hj => by
 rw [Addr.add_mid, Nat.zero_add, cell_of_row _ _ _ _ _ _ (heap_alloc_new W _), ← hj, Array.getElem?_toList]
theorem tok_cells_one (t : Tok) : ∀ u ∈ t.cells.toList, u.oneCell' = true := by
 intro u hu
 simp [Tok.cells, tokC] at hu
 rcases hu with rfl | rfl | rfl | rfl | rfl <;> simp [Value.oneCell']
def ToldG (c : Nat) (pre : List (Int × Tok)) (v : Value) : Prop := ∃ g cap, v = .slice (some ⟨g, 0, none⟩) (oksL pre).length cap ∧ ((oksL pre).length = 0 → cap = 0)
set_option maxRecDepth 100000 in
set_option maxHeartbeats 8000000 in
theorem told_in (n : Nat) (hn : 3 ≤ n) (s : ByteArray) (hs : s.size ≤ 60000) (w : World) :
  CallsIn Fence.wide n Try.prog 13 #[.string s] w fun e W' => ∃ v, e = .returned (.tuple #[v, .int .i64 (lastC (toksN s))]) ∧ W'.ownsRow w.heap.size 24 5 v (oksL (toksN s)).length (tokCells (oksL (toksN s))) ∧ Below w.heap.size w W' := by
 have h1 : 1 ≤ n := by omega
 have hmix : Try.prog.follows Departure.mixedOrders = true := by kernel_rfl
 refine callsIn_of_wp_marks Try.func13 rfl trivial ?_ rfl
 simp only [Try.ntmps13, List.size_toArray, List.length_cons, List.length_nil, Nat.reduceAdd, Nat.reduceSub, Array.replicate_succ, Array.replicate_zero, List.push_toArray, List.append_toArray, List.nil_append, List.cons_append]
 gi_wp2_with (first | (refine ⟨trivial, ?_⟩; gi_at_call 12; refine callsIn_wide.2 ((All_calls s _).mono ?_); rintro e w' ⟨rfl, rfl⟩))
 have hr0 : (((((((w.alloc (.cells #[.slice none 0 0] 35)).alloc (.cells #[.int .i64 0] 3)).alloc (.cells #[] 24)).alloc (.cells #[.slice (some ⟨w.heap.size + 1 + 1, 0, none⟩) 0 0] 35)).alloc (.cells #[.int .i64 0] 3)).alloc (.cells #[.string s] 9))).ownsRow w.heap.size 24 5 (.slice (some ⟨w.heap.size + 1 + 1, 0, none⟩) 0 0) 0 (tokCells (oksL [])) := by
  have h := (((tok_row ((w.alloc (.cells #[.slice none 0 0] 35)).alloc (.cells #[.int .i64 0] 3)) w.heap.size (by simp only [World.size_alloc]; omega)).alloc (.cells #[.slice (some ⟨w.heap.size + 1 + 1, 0, none⟩) 0 0] 35)).alloc (.cells #[.int .i64 0] 3)).alloc (.cells #[.string s] 9)
  simp only [World.size_alloc] at h
  exact h
 have p0 := (((((Boxed.new w 35 (.slice none 0 0)).alloc (.cells #[.int .i64 0] 3)).alloc (.cells #[] 24)).alloc (.cells #[.slice (some ⟨w.heap.size + 1 + 1, 0, none⟩) 0 0] 35)).alloc (.cells #[.int .i64 0] 3)).alloc (.cells #[.string s] 9)
 have p1 := ((((Boxed.new (w.alloc (.cells #[.slice none 0 0] 35)) 3 (.int .i64 0)).alloc (.cells #[] 24)).alloc (.cells #[.slice (some ⟨w.heap.size + 1 + 1, 0, none⟩) 0 0] 35)).alloc (.cells #[.int .i64 0] 3)).alloc (.cells #[.string s] 9)
 have p3 := ((Boxed.new (((w.alloc (.cells #[.slice none 0 0] 35)).alloc (.cells #[.int .i64 0] 3)).alloc (.cells #[] 24)) 35 (.slice (some ⟨w.heap.size + 1 + 1, 0, none⟩) 0 0)).alloc (.cells #[.int .i64 0] 3)).alloc (.cells #[.string s] 9)
 have p4 := (Boxed.new ((((w.alloc (.cells #[.slice none 0 0] 35)).alloc (.cells #[.int .i64 0] 3)).alloc (.cells #[] 24)).alloc (.cells #[.slice (some ⟨w.heap.size + 1 + 1, 0, none⟩) 0 0] 35)) 3 (.int .i64 0)).alloc (.cells #[.string s] 9)
 have p5 := Boxed.new (((((w.alloc (.cells #[.slice none 0 0] 35)).alloc (.cells #[.int .i64 0] 3)).alloc (.cells #[] 24)).alloc (.cells #[.slice (some ⟨w.heap.size + 1 + 1, 0, none⟩) 0 0] 35)).alloc (.cells #[.int .i64 0] 3)) 9 (.string s)
 simp only [World.size_alloc] at p1 p3 p4 p5
 have hB0 := below_alloc (below_alloc (below_alloc (below_alloc (below_alloc (below_alloc (Below.refl w.heap.size w) (.cells #[.slice none 0 0] 35)) (.cells #[.int .i64 0] 3)) (.cells #[] 24)) (.cells #[.slice (some ⟨w.heap.size + 1 + 1, 0, none⟩) 0 0] 35)) (.cells #[.int .i64 0] 3)) (.cells #[.string s] 9)
 obtain ⟨w6, hw6⟩ : ∃ w6, w6 = ((((((w.alloc (.cells #[.slice none 0 0] 35)).alloc (.cells #[.int .i64 0] 3)).alloc (.cells #[] 24)).alloc (.cells #[.slice (some ⟨w.heap.size + 1 + 1, 0, none⟩) 0 0] 35)).alloc (.cells #[.int .i64 0] 3)).alloc (.cells #[.string s] 9)) := ⟨_, rfl⟩
 rw [← hw6] at hr0 p0 p1 p3 p4 p5 hB0 ⊢
 have hsz : w6.heap.size = w.heap.size + 1 + 1 + 1 + 1 + 1 + 1 := by rw [hw6]; simp only [World.size_alloc]
 clear hw6
 refine wpIn_rangeFunc_ownH rfl h1 (gf := 26) (lb := #[.pointer (some ⟨w.heap.size + 1 + 1 + 1 + 1 + 1, 0, none⟩)]) rfl trivial (enters_of Try.func26 (by kernel_rfl) rfl)
  (all_stops (n - 1) (by omega) (w.heap.size + 1 + 1 + 1 + 1 + 1) s hs w6 (by omega) p5.cell) keepT_t (fun W l o o' a b c d => keepT_b (w := w6) W l o o' a b c d) (Below.refl _ _) (fun _ => rfl)
  (fun pre W => ((∃ v, Boxed W (w.heap.size + 1 + 1 + 1) 35 v ∧ W.ownsRow w.heap.size 24 5 v (oksL pre).length (tokCells (oksL pre)) ∧ ToldG 0 pre v) ∧ Boxed W w.heap.size 35 (.slice none 0 0) ∧ Boxed W (w.heap.size + 1) 3 (.int .i64 0) ∧ Boxed W (w.heap.size + 1 + 1 + 1 + 1) 3 (.int .i64 (lastC pre)) ∧ Boxed W (w.heap.size + 1 + 1 + 1 + 1 + 1) 9 (.string s)) ∧ Below w.heap.size w W)
  (fun c pre _ => c = .ret ∧ Bad pre)
  (OwnFrom.and (Own.from (fun pre A B row hs hg hr => ⟨holdsRow_own w.heap.size (w.heap.size + 1 + 1 + 1) 35 24 5 (fun pre : List (Int × Tok) => (oksL pre).length) (fun pre => tokCells (oksL pre)) (ToldG 0) pre A B row hs.1 hg hr, boxed_own w.heap.size 35 (fun _ : List (Int × Tok) => .slice none 0 0) pre A B row hs.2.1 hg hr, boxed_own (w.heap.size + 1) 3 (fun _ : List (Int × Tok) => .int .i64 0) pre A B row hs.2.2.1 hg hr, boxed_own (w.heap.size + 1 + 1 + 1 + 1) 3 (fun pre : List (Int × Tok) => .int .i64 (lastC pre)) pre A B row hs.2.2.2.1 hg hr, boxed_own (w.heap.size + 1 + 1 + 1 + 1 + 1) 9 (fun _ : List (Int × Tok) => .string s) pre A B row hs.2.2.2.2 hg hr⟩) _) (ownFrom_below (Nat.le_refl _) (by omega)))
  (fun _ _ _ _ _ hs _ _ => hs)
  ⟨⟨⟨_, p3, hr0, ⟨_, _, rfl, fun _ => rfl⟩⟩, p0, p1, p4, p5⟩, hB0⟩
  (fun x a' W => ∃ g : Nat, a' = { tmps := #[.string s, undef, .pointer (some ⟨w.heap.size, 0, none⟩), .pointer (some ⟨w.heap.size + 1, 0, none⟩), .pointer (some ⟨w.heap.size + 1 + 1 + 1, 0, none⟩), .pointer (some ⟨w.heap.size + 1 + 1 + 1 + 1, 0, none⟩), .pointer (some ⟨g, 0, none⟩), .int .i64 x.1, .slice (some ⟨w.heap.size + 1 + 1, 0, none⟩) 0 0, .string s, .func (.func 26) #[] #[.pointer (some ⟨w.heap.size + 1 + 1 + 1 + 1 + 1, 0, none⟩)], .agg x.2.cells, .int .i64 x.1, undef, undef, undef, undef, undef, undef, undef, undef, undef, undef, undef, undef, undef, undef, undef, undef, undef, undef, undef, undef], defers := [] } ∧ W.heap[g]? = some (.cells x.2.cells 24 (0, 0)))
  ?ax ?assign ?body ?done ?stop
 case ax =>
  rintro x a' _ A B row ⟨g, h1, h2⟩ hg hr
  refine ⟨g, h1, (hg.block g (blk_lt h2) (fun e => ?_)).trans h2⟩
  obtain ⟨_, o, ho, hc⟩ := hr g e.symm
  rw [h2] at ho
  injection ho with ho
  subst ho
  cases hc
 case assign =>
  rintro l pre x W K ⟨⟨⟨v, hv, hrow, hG⟩, b0, b1, b4, b5⟩, hB⟩ hK
  gi_wp2
  exact hK _ _ ((KeepsOthers.alloc W _).from _) (keepT_alloc _ _ _ _) ⟨⟨⟨v, hv.alloc _, hrow.alloc _, hG⟩, b0.alloc _, b1.alloc _, b4.alloc _, b5.alloc _⟩, below_alloc hB _⟩ ⟨_, rfl, heap_alloc_new W (.cells x.2.cells 24)⟩
 case body =>
  clear p0 p1 p3 p4 p5 hr0 hB0
  rintro l pre x a' W hl hlr ⟨⟨⟨v, hv, hrow, hG⟩, b0, b1, b4, b5⟩, hB⟩ ⟨g, rfl, hg⟩ hlen
  obtain ⟨xc, tk⟩ := x
  dsimp only at hg ⊢
  have hok := oksL_le pre
  obtain ⟨z, hz⟩ : ∃ z, z = lastC pre := ⟨_, rfl⟩
  rw [← hz] at b4
  have c4 := b4.cell
  have f4 := b4.frozen
  have HZ := Aside0.mk hz
  clear hz
  by_cases hz0 : z = 0
  ·subst hz0
   have hlast := lastC_snoc pre (xc, tk)
   have hoks := oksL_snoc pre (xc, tk)
   by_cases h0 : xc = 0
   ·subst h0
    dsimp only at hlast
    rw [if_pos rfl] at hoks
    obtain ⟨gr, cap, rfl, hcap⟩ := hG
    have HS := Aside0.mk (And.intro hlast hoks)
    have hlen5 := oksL_le (pre ++ [((0 : Int), tk)])
    clear hlast hoks
    obtain ⟨k, hk⟩ : ∃ k, k = (oksL pre).length := ⟨_, rfl⟩
    obtain ⟨xs, hxs⟩ : ∃ xs, xs = tokCells (oksL pre) := ⟨_, rfl⟩
    rw [← hk, ← hxs] at hrow
    rw [← hk] at hv hcap hok
    have HK := Aside0.mk (And.intro hk hxs)
    clear hk hxs
    have hsz2 := hB.size
    have hrow1 := hrow.alloc (.cells tk.cells 24)
    obtain ⟨v', w1, hrun, hown', hgrow, hsing⟩ := app_tok 35 w.heap.size (W.alloc (.cells tk.cells 24)) gr k cap xs hcap hrow1 ⟨W.heap.size, 0, none⟩ tk.cells.toList rfl (tok_cells_new W tk) (tok_cells_one tk) (by omega) (by simp; omega)
    obtain ⟨g', cap', rfl⟩ := ownsRow_succ hown'
    obtain ⟨hv1, hv2, hr2, hk2, hb2⟩ := hv.appended (by decide) hrow hB.size (by omega) hown' hgrow
    have hc := hv.cell
    have hc1 := hv1.cell
    have hf1 := hv1.frozen
    have n4 := b4.not_row (by decide) hrow
    have b4' := ((b4.alloc (.cells tk.cells 24)).kept hgrow n4).other (by omega : w.heap.size + 1 + 1 + 1 + 1 ≠ w.heap.size + 1 + 1 + 1) (.slice (some ⟨g', 0, none⟩) (k + 1) cap')
    have f4' := b4'.frozen
    have hcap2 : k + 1 = 0 → cap' = 0 := by omega
    have HB5 := Aside0.mk (((b5.alloc (.cells tk.cells 24)).kept hgrow (b5.not_row (by decide) hrow)).other (by omega : w.heap.size + 1 + 1 + 1 + 1 + 1 ≠ w.heap.size + 1 + 1 + 1) (.slice (some ⟨g', 0, none⟩) (k + 1) cap'))
    have HKT : Aside0 (KeepT (w.heap.size + 1 + 1 + 1 + 1 + 1) s W ((w1.setCell ⟨w.heap.size + 1 + 1 + 1, 0, none⟩ (.slice (some ⟨g', 0, none⟩) (k + 1) cap')).setCell ⟨w.heap.size + 1 + 1 + 1 + 1, 0, none⟩ (.int .i64 0))) :=
     ⟨fun _ => (HB5.out.other (by omega : w.heap.size + 1 + 1 + 1 + 1 + 1 ≠ w.heap.size + 1 + 1 + 1 + 1) _).cell, fun j cs hcs e => (keepT_set (s := s) (Bn := w.heap.size + 1 + 1 + 1 + 1 + 1) b4' (by decide) (by omega) 0 _).2 j cs hcs ((keepT_set (s := s) (Bn := w.heap.size + 1 + 1 + 1 + 1 + 1) hv1 (by decide) (by omega) 0 _).2 j cs hcs (hsing j cs hcs ((keepT_alloc (w.heap.size + 1 + 1 + 1 + 1 + 1) s W _).2 j cs hcs e)))⟩
    have c4' := b4'.cell
    have HB0 := Aside0.mk (((b0.alloc (.cells tk.cells 24)).kept hgrow (b0.not_row (by decide) hrow)).other (by omega : w.heap.size ≠ w.heap.size + 1 + 1 + 1) (.slice (some ⟨g', 0, none⟩) (k + 1) cap'))
    have HB1 := Aside0.mk (((b1.alloc (.cells tk.cells 24)).kept hgrow (b1.not_row (by decide) hrow)).other (by omega : w.heap.size + 1 ≠ w.heap.size + 1 + 1 + 1) (.slice (some ⟨g', 0, none⟩) (k + 1) cap'))
    gi_wp2_with (first | (refine wpListIn_load_row rfl 24 _ rfl g rfl 24 _ (0, 0) _ hg Try.underlying24 rfl tokInfo ?_) | (gi_at_builtin; refine wpListIn_app rfl _ _ 35 rfl _ _ rfl rfl _ w1 hrun ?_))
    have e1 := HK.out
    exact ⟨(hk2.trans (KeepsOthers.setCell _ _ _)).from _, HKT.out, ⟨⟨_, hv2.other (by omega) _, by rw [HS.out.2, List.length_append, List.length_singleton, tokCells_snoc, ← e1.1, ← e1.2]; exact hr2.kept (grownBy_setCell' _ _ _) (.inr (b4'.not_row (by decide) hr2).symm), ⟨g', cap', by rw [HS.out.2, List.length_append, List.length_singleton, ← e1.1], by rw [HS.out.2, List.length_append, List.length_singleton]; omega⟩⟩, HB0.out.other (by omega) _, HB1.out.other (by omega) _, by rw [HS.out.1]; exact blk_set b4' 0 _, HB5.out.other (by omega) _⟩, (hB.trans hb2).setCell (p := ⟨w.heap.size + 1 + 1 + 1 + 1, 0, none⟩) (by show w.heap.size ≤ w.heap.size + 1 + 1 + 1 + 1; omega) _⟩
   ·have t0 : (xc != 0) = true := bne_iff_ne.2 h0
    have t1 : (xc == 0) = false := beq_false_of_ne h0
    dsimp only at hlast
    rw [if_neg h0, List.append_nil] at hoks
    have HS := Aside0.mk (And.intro hlast hoks)
    clear hlast hoks
    by_cases ht : tk = tok0
    ·have hq : ∀ W, (Op.equalIn 10000 24 (.agg tk.cells) (.agg #[.int .i64 0, .int .i64 0, .string ⟨#[]⟩, .int .i64 0, .int .i64 0])).run Try.prog W = .ok true W := fun W => tok_eq tk tok0 true (by simp [ht]) W
     clear ht
     have d0 : W.cell? ⟨g, 0, none⟩ = some (.int .i64 tk.kind) := blk_cell hg 0
     have d1 : W.cell? ⟨g, 1, none⟩ = some (.int .i64 tk.n) := blk_cell hg 1
     have d2 : W.cell? ⟨g, 2, none⟩ = some (.string tk.s) := blk_cell hg 2
     have d3 : W.cell? ⟨g, 3, none⟩ = some (.int .i64 tk.at_) := blk_cell hg 3
     have d4 : W.cell? ⟨g, 4, none⟩ = some (.int .i64 tk.end_) := blk_cell hg 4
     gi_wp2
     exact ⟨(KeepsOthers.setCell W _ _).from _, keepT_set b4 (by decide) (by omega) 0 _, ⟨⟨v, hv.other (by omega) _, by rw [HS.out.2]; exact hrow.kept (grownBy_setCell' W _ _) (.inr (b4.not_row (by decide) hrow).symm), by unfold ToldG; rw [HS.out.2]; exact hG⟩, b0.other (by omega) _, b1.other (by omega) _, by rw [HS.out.1]; exact blk_set b4 0 _, b5.other (by omega) _⟩, hB.setCell (p := ⟨w.heap.size + 1 + 1 + 1 + 1, 0, none⟩) (by show w.heap.size ≤ w.heap.size + 1 + 1 + 1 + 1; omega) _⟩
    ·have hq : ∀ W, (Op.equalIn 10000 24 (.agg tk.cells) (.agg #[.int .i64 0, .int .i64 0, .string ⟨#[]⟩, .int .i64 0, .int .i64 0])).run Try.prog W = .ok false W := fun W => tok_eq tk tok0 false (by simp [ht]) W
     have hbad := Aside0.mk (now_bad pre (xc, tk) h0 ht)
     have c0 := b0.cell
     have c1 := b1.cell
     have f0 := b0.frozen
     have f1 := b1.frozen
     clear ht
     have d0 : W.cell? ⟨g, 0, none⟩ = some (.int .i64 tk.kind) := blk_cell hg 0
     have d1 : W.cell? ⟨g, 1, none⟩ = some (.int .i64 tk.n) := blk_cell hg 1
     have d2 : W.cell? ⟨g, 2, none⟩ = some (.string tk.s) := blk_cell hg 2
     have d3 : W.cell? ⟨g, 3, none⟩ = some (.int .i64 tk.at_) := blk_cell hg 3
     have d4 : W.cell? ⟨g, 4, none⟩ = some (.int .i64 tk.end_) := blk_cell hg 4
     gi_wp2
     exact ⟨((KeepsOthers.setCell W _ _).trans (KeepsOthers.setCell _ _ _)).from _, rfl, hbad.out⟩
  ·have t0 : (z != 0) = true := bne_iff_ne.2 hz0
   have hbad := Aside0.mk (lastC_bad pre (xc, tk) (by rw [← HZ.out]; exact hz0))
   have c0 := b0.cell
   have c1 := b1.cell
   have f0 := b0.frozen
   have f1 := b1.frozen
   gi_wp2
   exact ⟨((KeepsOthers.setCell W _ _).trans (KeepsOthers.setCell _ _ _)).from _, rfl, hbad.out⟩
 case done =>
  rintro D ys W hD rfl ⟨⟨⟨v, hv, hrow, hG⟩, b0, b1, b4, b5⟩, hB⟩ hK
  obtain ⟨z, hz⟩ : ∃ z, z = lastC (toksN s) := ⟨_, rfl⟩
  rw [← hz] at b4
  have HZ := Aside0.mk hz
  clear hz
  obtain ⟨gr, cap, rfl, hcap⟩ := hG
  obtain ⟨k, hk⟩ : ∃ k, k = (oksL (toksN s)).length := ⟨_, rfl⟩
  rw [← hk] at hv hrow
  have HK := Aside0.mk hk
  clear hk hcap
  have c2 := (b0.set (.slice (some ⟨gr, 0, none⟩) k cap)).cell
  have hc := hv.cell
  have c4 := b4.cell
  have c0 := b0.cell
  have f0 := b0.frozen
  have c1 := b1.cell
  have f1 := b1.frozen
  have hinl : Try.prog.follows Departure.inlinedCapture = true := by kernel_rfl
  clear p0 p1 p3 p4 p5 hr0 hB0
  gi_wp2
  gi_region
  gi_wp2
  have hK2 := ((KeepsOthers.setCell W ⟨w.heap.size, 0, none⟩ (.slice (some ⟨gr, 0, none⟩) k cap)).trans (KeepsOthers.setCell _ ⟨w.heap.size + 1, 0, none⟩ (.int .i64 z))).same D _ hK rfl
  have q0 : Boxed (W.setCell ⟨w.heap.size, 0, none⟩ (.slice (some ⟨gr, 0, none⟩) k cap)) w.heap.size 35 (.slice (some ⟨gr, 0, none⟩) k cap) := blk_set b0 0 _
  have q1 : Boxed (W.setCell ⟨w.heap.size, 0, none⟩ (.slice (some ⟨gr, 0, none⟩) k cap)) (w.heap.size + 1) 3 (.int .i64 0) := b1.other (by omega) _
  have q2 : Boxed ((W.setCell ⟨w.heap.size, 0, none⟩ (.slice (some ⟨gr, 0, none⟩) k cap)).setCell ⟨w.heap.size + 1, 0, none⟩ (.int .i64 z)) (w.heap.size + 1) 3 (.int .i64 z) := blk_set q1 0 _
  have q3 := q0.other (B' := w.heap.size + 1) (by omega) (.int .i64 z)
  have hr1 := hrow.kept (grownBy_setCell' W w.heap.size (.slice (some ⟨gr, 0, none⟩) k cap)) (.inr (b0.not_row (by decide) hrow).symm)
  have hr2 := hr1.kept (grownBy_setCell' _ (w.heap.size + 1) (.int .i64 z)) (.inr (q1.not_row (by decide) hr1).symm)
  have hB2 := (hB.setCell (p := ⟨w.heap.size, 0, none⟩) (Nat.le_refl _) (.slice (some ⟨gr, 0, none⟩) k cap)).setCell (p := ⟨w.heap.size + 1, 0, none⟩) (Nat.le_succ _) (.int .i64 z)
  clear hr1 q0 q1 hK hrow hc hv b0 b1 b4 b5 c0 c1 c2 c4 f0 f1 hB
  generalize World.setCell (World.setCell W _ _) _ _ = W2 at *
  replace hB2 : Below w.heap.size w W2.drew := below_drew hB2
  replace hK2 : W2.drew.heap[D]? = _ := hK2
  replace hr2 : W2.drew.ownsRow w.heap.size 24 5 (.slice (some ⟨gr, 0, none⟩) k cap) k (tokCells (oksL (toksN s))) := hr2
  replace q2 : Boxed W2.drew (w.heap.size + 1) 3 (.int .i64 z) := q2
  replace q3 : Boxed W2.drew w.heap.size 35 (.slice (some ⟨gr, 0, none⟩) k cap) := q3
  generalize World.drew W2 = W3 at *
  refine ⟨by simp, .inl ⟨_, _, rfl, run_takeDeferred hK2, ?_⟩⟩
  have r0 := cell_kept q3.cell (grownBy_putObj' W3 D (.deferred none)) (fun r e => by cases e; exact ⟨_, hK2, rfl⟩)
  have r1 := cell_kept q2.cell (grownBy_putObj' W3 D (.deferred none)) (fun r e => by cases e; exact ⟨_, hK2, rfl⟩)
  refine ⟨.tuple #[.slice (some ⟨gr, 0, none⟩) k cap, .int .i64 z], ?_, _, by rw [HZ.out], by rw [← HK.out]; exact ownsRow_putObj hr2 _ hK2 rfl, hB2.trans (belowK_b (w := w) (Nat.le_refl _) _ D _ _ (by omega) hK2 rfl rfl)⟩
  simp [results, Try.f13, go_sem, r0, r1]
 case stop =>
  rintro D c pre W hD hpre ⟨rfl, hbad⟩ hK
  obtain ⟨ys, hy⟩ := hpre
  obtain ⟨a, x, he⟩ := toksN_ends s
  exact absurd (hy ▸ bad_app hbad) (ends_not_bad he)
theorem ltold_calls (s : ByteArray) (hs : s.size ≤ 60000) (w : World) :
  Calls Try.prog 13 #[.string s] w fun e W' => ∃ v, e = .returned (.tuple #[v, .int .i64 (lastC (toksN s))]) ∧ W'.ownsRow w.heap.size 24 5 v (oksL (toksN s)).length (tokCells (oksL (toksN s))) ∧ Below w.heap.size w W' :=
 callsIn_wide.1 (told_in 3 (by omega) s hs w)
end Go.Proofs.Ytkmmmlbppobifaa.Hand
