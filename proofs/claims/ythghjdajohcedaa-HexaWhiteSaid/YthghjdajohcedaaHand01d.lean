/- The law's own 'lines': a loop over the iterator octet.Lines that appends. -/
import Derived.Maps.AppendAt
import Derived.Test.YthghjdajohcedaaHand01c
namespace Go.Proofs.Ythghjdajohcedaa.Hand
open Go.RowKit Go.Shelf Go.Proofs.YthghjdajohcedaaW.PrintWords Go.Proofs.YthghjdajohcedaaW.PrintLast Go.Proofs.YthghjdajohcedaaW.PrintMore Go.Proofs.Ythghjdajohcedaa.Num Go.Proofs.Ythghjdajohcedaa.P01a
set_option linter.unusedVariables false
set_option linter.unusedSimpArgs false
attribute [local go_sem] Oper.semAt_some

theorem infoI64 : (Try.prog.info? 3).map (fun i => (i.zero, i.size, i.bytes)) = some (some (.int .i64 0), 1, 8) := by kernel_rfl

set_option maxRecDepth 100000 in
set_option maxHeartbeats 8000000 in
theorem lines_in (n : Nat) (hn : 3 ≤ n) (s : ByteArray) (hs : s.size ≤ 1000000) (w : World) :
    CallsIn Fence.wide n Try.prog 27 #[.string s] w fun e W' => ∃ v, e = .returned v ∧ W'.ownsRow w.heap.size 3 1 v (linesN s).length ((linesN s).map (fun x => Value.int .i64 (clN s x : Int))) ∧ Below w.heap.size w W' := by
  have h1 : 1 ≤ n := by omega
  have hmix : Try.prog.follows Departure.mixedOrders = true := by kernel_rfl
  obtain ⟨i0, hi, hz0, hz1, hz2⟩ := info_parts infoI64
  refine callsIn_of_wp_marks Try.func27 rfl trivial ?_ rfl
  simp only [Try.ntmps27, List.size_toArray, List.length_cons, List.length_nil, Nat.reduceAdd, Nat.reduceSub, Array.replicate_succ, Array.replicate_zero, List.push_toArray, List.append_toArray, List.nil_append, List.cons_append]
  gi_wp2_with (first | (refine ⟨trivial, ?_⟩; gi_at_call 26; refine callsIn_wide.2 ((octet_Lines_calls s _).mono ?_); rintro e w' ⟨rfl, rfl⟩))
  have hr0 : ((((w.alloc (.cells #[] 3)).alloc (.cells #[.slice (some ⟨w.heap.size, 0, none⟩) 0 0] 26)).alloc (.cells #[.string s] 9))).ownsRow w.heap.size 3 1 (.slice (some ⟨w.heap.size, 0, none⟩) 0 0) 0 [] :=
    ((Row.empty w w.heap.size 3 .i64 (Nat.le_refl _)).alloc _).alloc _
  have p0 := (Boxed.new (w.alloc (.cells #[] 3)) 26 (.slice (some ⟨w.heap.size, 0, none⟩) 0 0)).alloc (.cells #[.string s] 9)
  have p1 := Boxed.new ((w.alloc (.cells #[] 3)).alloc (.cells #[.slice (some ⟨w.heap.size, 0, none⟩) 0 0] 26)) 9 (.string s)
  simp only [World.size_alloc] at p0 p1
  have hB0 := below_alloc (below_alloc (below_alloc (Below.refl w.heap.size w) (.cells #[] 3)) (.cells #[.slice (some ⟨w.heap.size, 0, none⟩) 0 0] 26)) (.cells #[.string s] 9)
  obtain ⟨w3, hw3⟩ : ∃ w3, w3 = ((w.alloc (.cells #[] 3)).alloc (.cells #[.slice (some ⟨w.heap.size, 0, none⟩) 0 0] 26)).alloc (.cells #[.string s] 9) := ⟨_, rfl⟩
  rw [← hw3] at hr0 p0 p1 hB0 ⊢
  have hsz : w3.heap.size = w.heap.size + 1 + 1 + 1 := by rw [hw3]; simp only [World.size_alloc]
  clear hw3
  refine wpIn_rangeFunc_ownF rfl h1 (gf := 47) (lb := #[.pointer (some ⟨w.heap.size + 1 + 1, 0, none⟩)]) rfl trivial (enters_of Try.func47 (by kernel_rfl) rfl)
    (lines_stops (n - 1) (by omega) (w.heap.size + 1 + 1) s hs w3 (by omega) p1.cell) keepS_t (fun W l o o' a b c d => keepS_b (w := w3) W l o o' a b c d) (Below.refl _ _) (fun _ => rfl)
    (fun pre W => ((∃ v, Boxed W (w.heap.size + 1) 26 v ∧ W.ownsRow w.heap.size 3 1 v pre.length (pre.map (fun x => Value.int .i64 (clN s x : Int))) ∧ True) ∧ Boxed W (w.heap.size + 1 + 1) 9 (.string s)) ∧ Below w.heap.size w W)
    (fun _ _ _ => False)
    (OwnFrom.and (Own.from (fun pre A B row hs hg hr => ⟨holdsRow_own w.heap.size (w.heap.size + 1) 26 3 1 (fun pre : List Nat => pre.length) (fun pre => pre.map (fun x => Value.int .i64 (clN s x : Int))) (fun _ _ => True) pre A B row hs.1 hg hr, boxed_own (w.heap.size + 1 + 1) 9 (fun _ : List Nat => .string s) pre A B row hs.2 hg hr⟩) _) (ownFrom_below (Nat.le_refl _) (by omega)))
    (fun _ _ _ _ _ hs _ _ => hs)
    ⟨⟨⟨_, p0, hr0, trivial⟩, p1⟩, hB0⟩
    (fun x => { tmps := #[.string s, undef, .slice none 0 0, .pointer (some ⟨w.heap.size + 1, 0, none⟩), .int .i64 (clN s x : Int), .slice (some ⟨w.heap.size, 0, none⟩) 0 0, .string s, .func (.func 47) #[] #[.pointer (some ⟨w.heap.size + 1 + 1, 0, none⟩)], .int .i64 (clN s x : Int), undef, undef, undef, undef, undef], defers := [] }) ?assign ?body ?done ?stop
  case assign =>
    intro l x W K hK
    gi_wp2
    exact hK
  case body =>
    clear p0 p1 hr0 hB0
    rintro l pre x W ⟨⟨⟨v, hv, hrow, _⟩, hs1⟩, hB⟩ hlt
    have hc := hv.cell
    have hle := clN_le s x
    obtain ⟨y, hy⟩ : ∃ y : Nat, y = clN s x := ⟨_, rfl⟩
    have HY := Aside0.mk hy
    rw [← hy]
    clear hy
    have hsz2 := hB.size
    gi_wp2_with (gi_at_builtin; refine wpListIn_append_own _ rfl _ _ 26 rfl w.heap.size 3 i0 (.int .i64 0) 1 8 Try.underlying26 hi hz0 hz1 hz2 rfl (by decide) _ _ _ rfl (hrow.alloc _) ⟨W.heap.size, 0, none⟩ 1 1 [.int .i64 (y : Int)] rfl rfl (cell_one_new _ _ _) (by simp [Value.oneCell']) (by unfold maxLen; omega) (by omega) (by simp; omega) ?_; intro v' w1 hown' hgrow _; obtain ⟨g', cap', rfl⟩ := ownsRow_succ hown'; obtain ⟨hv1, hv2, hr2, hk2, hb2⟩ := hv.appended (by decide) hrow hB.size (by omega) hown' hgrow; have hc1 := hv1.cell; have hf1 := hv1.frozen; have hs2 := ((hs1.alloc _).kept hgrow (hs1.not_row (by decide) hrow)).other (by omega : w.heap.size + 1 + 1 ≠ w.heap.size + 1) (.slice (some ⟨g', 0, none⟩) (pre.length + 1) cap'))
    exact ⟨hk2, fun _ => hs2.cell, ⟨⟨_, hv2, by rw [List.length_append, List.map_append, List.map_singleton, ← HY.out]; exact hr2, trivial⟩, hs2⟩, hB.trans hb2⟩
  case done =>
    rintro D ys W hD rfl ⟨⟨⟨v, hv, hrow, _⟩, hs1⟩, hB⟩ hK
    have hc := hv.cell
    gi_wp2
    refine ⟨by simp, .inl ⟨_, _, rfl, run_takeDeferred hK, ?_⟩⟩
    exact ⟨_, results_tmp rfl _ _ _, v, rfl, ownsRow_putObj hrow _ hK rfl, hB.trans (belowK_b (w := w) (Nat.le_refl _) W D _ _ (by omega) hK rfl rfl)⟩
  case stop =>
    rintro D c pre W _ _ h _
    exact h.elim
/-- Where the lines of a text begin: a row of its own. -/
def lineNums (s : ByteArray) : List Int := (linesN s).map (fun x : Nat => (x : Int))
theorem lines_calls (s : ByteArray) (hs : s.size ≤ 1000000) (w : World) :
    Calls Try.prog 27 #[.string s] w fun e w' => ∃ v, e = .returned v ∧ Row w' w.heap.size 3 .i64 v (lineNums s) ∧ Below w.heap.size w w' :=
  (callsIn_wide.1 (lines_in 3 (by omega) s hs w)).mono (fun e w' h => by
    obtain ⟨v, he, hr, hb⟩ := h
    refine ⟨v, he, ?_, hb⟩
    have e1 : nums .i64 (lineNums s) = (linesN s).map (fun x => Value.int .i64 (clN s x : Int)) := by
      rw [lineNums, nums, List.map_map]
      refine List.map_congr_left (fun x hx => ?_)
      show Value.int .i64 (x : Int) = _
      rw [clN_lt s x (linesFrom_lt s s.size 0 x hx)]
    unfold Row
    rw [e1, lineNums, List.length_map]
    exact hr)
end Go.Proofs.Ythghjdajohcedaa.Hand
