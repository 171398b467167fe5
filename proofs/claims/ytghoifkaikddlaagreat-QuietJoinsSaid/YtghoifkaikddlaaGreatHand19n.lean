/- quiet.Names, over the contracts of what the filters do; walked by hand. -/
import Derived.Test.YtghoifkaikddlaaGreatHand14e
import Derived.Test.YtghoifkaikddlaaGreatHand19
namespace Go.Proofs.YtghoifkaikddlaaGreat.Hand
open Go.RowKit Go.Proofs.YtghoifkaikddlaaGreatW.PrintWords Go.Proofs.YtghoifkaikddlaaGreatW.PrintLast Go.Proofs.YtghoifkaikddlaaGreat.Num
set_option linter.unusedVariables false
set_option linter.unusedSimpArgs false
theorem infoS9 : (Tryz.prog.info? 9).map (fun i => (i.zero, i.size, i.bytes)) = some (some (.string ⟨#[]⟩), 1, 16) := by kernel_rfl
/-- An append whose run is known. -/
theorem wpList_app {P : Program} {ops : Array Oper} {rest : List Oper} {o : Oper} {a : Act} {w : World} {Q : Exit → Act → World → Prop} (hgd : o.guard = none) (s x : Operand) (t : TypeId)
    (ho : o.op = .call { callee := .builtin .append, args := #[s, x], argTypes := #[t, t] }) (v sv : Value) (hs : a.eval s = v) (hx : a.eval x = sv) (v' : Value) (w' : World)
    (hrun : (Builtin.append_ #[t, t] o.type #[v, sv]).run P w = .ok v' w') (h : wpList P ops Q rest (a.put o.dst v') w') : wpList P ops Q (o :: rest) a w := by
  refine wpList_plain hgd fun K hK => ?_
  unfold Oper.wp execOp
  simp only [ho, resolve, invoke, builtin, Sem.run_bind, Sem.run_pure, Result.andThen_ok, List.map_toArray, List.map_cons, List.map_nil, hs, hx, hrun]
  exact hK _ _ h
/-- A row of strings of the call's own. -/
def OwnS (w : World) (B : Nat) (v : Value) (l : List ByteArray) : Prop := w.ownsRow B 9 1 v l.length (l.map Value.string)
theorem OwnS.shape {w : World} {B : Nat} {v : Value} {l : List ByteArray} (h : OwnS w B v l) : ∃ A c, v = .slice A l.length c := by
  rcases h.2 with ⟨h0, h1⟩ | ⟨g, cap, cur, h0, _⟩
  · rw [h1]; exact ⟨_, _, h0⟩
  · exact ⟨_, _, h0⟩
theorem OwnS.strs {w : World} {B : Nat} {A : Option Addr} {n c : Nat} {l : List ByteArray} (h : OwnS w B (.slice A n c) l) : Strs w A l := fun i hi => by
  rcases h.2 with ⟨h0, h1⟩ | ⟨g, cap, cur, h0, _⟩
  · omega
  · injection h0 with h0
    subst h0
    refine ⟨⟨g, 0, none⟩, rfl, ?_⟩
    have h3 := h.cells (g := g) rfl i (.string (l.getD i ⟨#[]⟩)) (by
      rw [List.getElem?_map, List.getD_eq_getElem?_getD, List.getElem?_eq_getElem hi]; rfl)
    exact h3
set_option maxRecDepth 100000 in
/-- Strings that are read are appended to a row of the call's own. -/
theorem app_strs (ty : TypeId) (B : Nat) (w : World) (v : Value) (xs : List ByteArray) (h : OwnS w B v xs) (A : Option Addr) (c : Nat) (l : List ByteArray) (hl : Strs w A l) (hx : xs.length ≤ 1000) (hn : l.length ≤ 1000) (hB : B ≤ w.heap.size) :
    ∃ v' w', (Builtin.append_ #[22, 22] ty #[v, .slice A l.length c]).run Tryz.prog w = .ok v' w' ∧ OwnS w' B v' (xs ++ l) ∧ Below B w w' := by
  obtain ⟨i0, hi, hz0, hz1, hz2⟩ := info_parts infoS9
  by_cases h0 : l.length = 0
  · have hl0 : l = [] := List.eq_nil_of_length_eq_zero h0
    subst hl0
    rw [List.append_nil]
    refine ⟨v, w, ?_, h, Below.refl _ _⟩
    rcases h.2 with ⟨rfl, h1⟩ | ⟨g, cap, cur, rfl, _, _, hle, _⟩
    · cases A <;> simp [Builtin.append_, run_underlying Tryz.underlying22, sizeOf, typeInfo, hi, Builtin.lenOf, Builtin.firstCells, loadCells, loadCellsFrom]
    · cases A <;> simp [Builtin.append_, run_underlying Tryz.underlying22, sizeOf, typeInfo, hi, Builtin.lenOf, Builtin.firstCells, loadCells, loadCellsFrom, hle, storeCells]
  · obtain ⟨ad, rfl, _⟩ := hl 0 (by omega)
    obtain ⟨v', w', hr, h2, h3, _⟩ := run_append_own (P := Tryz.prog) w B 22 ty 9 i0 _ 1 16 Tryz.underlying22 hi hz0 hz1 hz2 rfl (by decide) v xs.length (xs.map Value.string) h ad l.length c (l.map Value.string) (by simp) (fun j u hj => by
      rw [List.getElem?_map] at hj
      obtain ⟨x, hx, rfl⟩ := Option.map_eq_some_iff.1 hj
      have hj2 := (List.getElem?_eq_some_iff.1 hx).1
      obtain ⟨ad', e1, e2⟩ := hl j hj2
      injection e1 with e1
      subst e1
      rw [List.getD_eq_getElem?_getD, hx] at e2
      exact e2) (fun u hu => by
      obtain ⟨x, _, rfl⟩ := List.mem_map.1 hu
      simp [Value.oneCell']) (by unfold maxLen; omega) (by omega) hB
    refine ⟨v', w', hr, ?_, ?_⟩
    · unfold OwnS
      rw [List.length_append, List.map_append]
      exact h2
    · refine (Below.refl B w).grown h3 hB (fun g hg => ?_)
      rcases h.2 with ⟨rfl, _⟩ | ⟨g', cap, cur, rfl, hb, _⟩
      · simp [Value.ownBlock] at hg
      · obtain rfl : g' = g := by simpa [Value.ownBlock] using hg
        exact hb
theorem ownS_nil (w : World) (B : Nat) : OwnS w B (.slice none 0 0) [] := World.ownsRow_nil _ _ _ _
theorem strs_lit (w : World) (x : ByteArray) : Strs (w.alloc (.cells #[.string x] 9)) (some ⟨w.heap.size, 0, none⟩) [x] := fun i hi => by
  obtain rfl : i = 0 := by simp at hi; omega
  exact ⟨_, rfl, blk_cell (heap_alloc_new w (.cells #[.string x] 9)) 0⟩
/-- What quiet.Names tells. -/
def namF (l : List ByteArray) (r : ByteArray × Int) : List ByteArray × Int :=
  if r.2 = 0 then (if loudB r.1 = true then (if l.length = 4 then ([], 16) else (hexN :: l, 0)) else (l, 0)) else ([], r.2)
set_option maxRecDepth 100000 in
set_option maxHeartbeats 8000000 in
theorem names_calls (A : Option Addr) (n cap : Nat) (l : List ByteArray) (c : Int) (s : ByteArray) (r : ByteArray × Int) (w : World) (hn : n = l.length) (hn2 : n ≤ 1000) (hl : Strs w A l) (hr2 : r.1.size ≤ 1000000)
    (hE : ∀ W, Strs W A l → Calls Tryz.prog 17 #[.slice A n cap, .int .i64 c, .string s] W fun e w' => e = .returned (.tuple #[.string r.1, .int .i64 r.2]) ∧ Below W.heap.size W w') :
    Calls Tryz.prog 11 #[.slice A n cap, .int .i64 c, .string s] w fun e w' => ∃ v, e = .returned (.tuple #[v, .int .i64 (namF l r).2]) ∧ OwnS w' w.heap.size v (namF l r).1 ∧ Below w.heap.size w w' := by
  obtain ⟨t, te⟩ := r
  dsimp only at hE hr2
  have HN := Aside0.mk hn
  have KE := Aside0.mk hE
  have KL := Aside0.mk (fun W => loud_calls t W hr2)
  clear hE hn
  by_cases ht : te = 0
  · subst ht
    by_cases hb : loudB t = true
    · rw [hb] at KL
      by_cases h4 : l.length = 4
      · have hr : namF l (t, 0) = ([], 16) := by unfold namF; rw [if_pos rfl, if_pos hb, if_pos h4]
        rw [hr]
        have q0 : ((n : Int) == 4) = true := beq_iff_eq.2 (by have := HN.out; omega)
        have hn4 : n = 4 := HN.out.trans h4
        clear hr hb h4
        subst hn4
        go_enter Tryz.func11, Tryz.ntmps11
        go_wp2_with (first | (go_at_call 17; (with_reducible refine (KE.out _ hl).mono ?_); rintro e w1 ⟨rfl, hb1⟩) | (go_at_call 13; (with_reducible refine (KL.out _).mono ?_); rintro e w2 ⟨rfl, hb2⟩))
        go_returns
        exact ⟨_, rfl, ownS_nil _ _, hb1.trans (hb2.mono hb1.size)⟩
      · have hr : namF l (t, 0) = (hexN :: l, 0) := by unfold namF; rw [if_pos rfl, if_pos hb, if_neg h4]
        rw [hr]
        have q0 : ((n : Int) == 4) = false := beq_false_of_ne (by have := HN.out; omega)
        have q1 : (n == 4) = false := beq_false_of_ne (by have := HN.out; omega)
        clear hr hb h4
        go_enter Tryz.func11, Tryz.ntmps11
        go_wp2_with (first | (go_at_call 17; (with_reducible refine (KE.out _ hl).mono ?_); rintro e w1 ⟨rfl, hb1⟩) | (go_at_call 13; (with_reducible refine (KL.out _).mono ?_); rintro e w2 ⟨rfl, hb2⟩; have HB2 := Aside0.mk (hb1.trans (hb2.mono hb1.size))) | (at_builtin; obtain ⟨v4, w4, hrun4, hv4, hb4⟩ := app_strs 22 w.heap.size (w2.alloc (.cells #[.string hexN] 9)) (.slice none 0 0) [] (ownS_nil _ _) (some ⟨w2.heap.size, 0, none⟩) 1 [hexN] (strs_lit w2 hexN) (by simp) (by simp) (Nat.le_trans HB2.out.size (by simp)); refine wpList_app rfl _ _ 22 rfl _ _ rfl rfl v4 w4 hrun4 ?_; have HB4 := Aside0.mk ((below_alloc HB2.out (.cells #[.string hexN] 9)).trans hb4); clear hb4 hrun4; obtain ⟨A4, c4, rfl⟩ := hv4.shape) | (at_builtin; obtain ⟨v5, w5, hrun5, hv5, hb5⟩ := app_strs 22 w.heap.size w4 _ _ hv4 A cap l (hl.below HB4.out) (by simp) (by have := HN.out; omega) HB4.out.size; rw [← HN.out] at hrun5; refine wpList_app rfl _ _ 22 rfl _ _ rfl rfl v5 w5 hrun5 ?_))
        go_returns
        exact ⟨_, rfl, hv5, HB4.out.trans hb5⟩
    · rw [Bool.eq_false_iff.2 hb] at KL
      have hr : namF l (t, 0) = (l, 0) := by unfold namF; rw [if_pos rfl, if_neg hb]
      rw [hr]
      clear hr hb
      go_enter Tryz.func11, Tryz.ntmps11
      go_wp2_with (first | (go_at_call 17; (with_reducible refine (KE.out _ hl).mono ?_); rintro e w1 ⟨rfl, hb1⟩) | (go_at_call 13; (with_reducible refine (KL.out _).mono ?_); rintro e w2 ⟨rfl, hb2⟩; have HB2 := Aside0.mk (hb1.trans (hb2.mono hb1.size))) | (at_builtin; obtain ⟨v5, w5, hrun5, hv5, hb5⟩ := app_strs 22 w.heap.size w2 (.slice none 0 0) [] (ownS_nil _ _) A cap l (hl.below HB2.out) (by simp) (by have := HN.out; omega) HB2.out.size; rw [← HN.out] at hrun5; refine wpList_app rfl _ _ 22 rfl _ _ rfl rfl v5 w5 hrun5 ?_))
      go_returns
      exact ⟨_, rfl, hv5, HB2.out.trans hb5⟩
  · have hr : namF l (t, te) = ([], te) := by unfold namF; rw [if_neg ht]
    rw [hr]
    have t0 : (te != 0) = true := bne_iff_ne.2 ht
    clear hr ht
    go_enter Tryz.func11, Tryz.ntmps11
    go_wp2_with (first | (go_at_call 17; (with_reducible refine (KE.out _ hl).mono ?_); rintro e w1 ⟨rfl, hb1⟩))
    go_returns
    exact ⟨_, rfl, ownS_nil _ _, hb1⟩
end Go.Proofs.YtghoifkaikddlaaGreat.Hand
