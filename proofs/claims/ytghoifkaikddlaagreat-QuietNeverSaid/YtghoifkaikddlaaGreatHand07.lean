/- The contracts of runs.Encode and runs.Decode of the given program: plain Lean functions in rounds tell what they tell. -/
import Derived.Test.YtghoifkaikddlaaGreatBits
import Derived.Test.YtghoifkaikddlaaGreatP07ax0
import Derived.Test.YtghoifkaikddlaaGreatP07ax1
namespace Go.Proofs.YtghoifkaikddlaaGreat.Hand
open Go.RowKit Go.Proofs.YtghoifkaikddlaaGreatW.PrintWords Go.Proofs.YtghoifkaikddlaaGreatW.PrintLast Go.Proofs.YtghoifkaikddlaaGreatW.PrintMore Go.Proofs.YtghoifkaikddlaaGreat.P07a
set_option linter.unusedVariables false
set_option linter.unusedSimpArgs false
def flushed (xs : List Int) (s : ByteArray) (f to_ : Nat) : List Int := if f < to_ then xs ++ [((to_ : Int) - f - 1) % 256] ++ bytesOf (s.extract f to_) else xs
set_option maxHeartbeats 1000000 in
theorem flush_calls (gf go gs : Nat) (f to_ : Nat) (s : ByteArray) (v : Value) (xs : List Int) (B : Nat) (w : World)
  (hf : w.heap[gf]? = some (.cells #[.int .i64 f] 3 (0, 0))) (ho : w.heap[go]? = some (.cells #[v] 59 (0, 0))) (hs : w.heap[gs]? = some (.cells #[.string s] 9 (0, 0)))
  (hr : Row w B 5 .u8 v xs) (hle : f ≤ to_) (hts : to_ ≤ s.size) (hsz : s.size ≤ 1000000) (hxs : xs.length ≤ 4000000) (bf : B ≤ gf) (bo : B ≤ go) (hB : B ≤ w.heap.size) :
  Calls Tryz.prog 71 #[.int .i64 to_, .pointer (some ⟨gf, 0, none⟩), .pointer (some ⟨go, 0, none⟩), .pointer (some ⟨gs, 0, none⟩)] w fun e w' =>
   e = .returned (.tuple #[]) ∧ ∃ v1, w'.heap[gf]? = some (.cells #[.int .i64 to_] 3 (0, 0)) ∧ w'.heap[go]? = some (.cells #[v1] 59 (0, 0)) ∧ w'.heap[gs]? = some (.cells #[.string s] 9 (0, 0)) ∧
    Row w' B 5 .u8 v1 (flushed xs s f to_) ∧ Below B w w' := by
 have c1 := blk_cell hf 0
 have c2 := blk_cell ho 0
 have c3 := blk_cell hs 0
 have f1 := blk_frozen hf 0
 have f2 := blk_frozen ho 0
 by_cases hlt : f < to_
 ·have hd : decide ((f : Int) < (to_ : Int)) = true := decide_eq_true (by omega)
  go_enter Tryz.func71, Tryz.ntmps71
  go_wp2_with (first | (at_builtin; refine app_wp B rfl _ _ 59 5 .u8 1 rfl Tryz.underlying59 infoU8 v xs [((to_ : Int) - f - 1) % 256] rfl ⟨w.heap.size, 0, none⟩ 1 1 rfl rfl (news_lit w .u8 _ _ _ (by rfl)) (hr.alloc _) (by simp; omega) (by unfold maxLen; simp; omega) (by simp; omega) ?_; intro v1 w1 hap; obtain ⟨A1, n1, m1, hv1, hn1⟩ := hap.row.shape; subst hv1; have ho1 := hap.blk1 hr ho (by decide); have hf1 := hap.blk1 hr hf (by decide); have hs1 := hap.blk1 hr hs (by decide); have d1 := blk_cell ho1 0; have d2 := blk_frozen ho1 0; have d3 := blk_cell hf1 0; have d4 := blk_cell hs1 0; have d5 := blk_frozen hf1 0))
  have hr2 := hap.row.set ho1 (by decide) 0 (.slice A1 n1 m1)
  have ho2 := blk_put1 ho1 (.slice A1 n1 m1)
  have hf2 := blk_else hf1 ho1 (by decide) 0 (.slice A1 n1 m1)
  have hs2 := blk_else hs1 ho1 (by decide) 0 (.slice A1 n1 m1)
  have hb2 := (hap.below1 hr hB).setCell (p := ⟨go, 0, none⟩) bo (.slice A1 n1 m1)
  generalize w1.setCell ⟨go, 0, none⟩ (.slice A1 n1 m1) = w2 at hr2 ho2 hf2 hs2 hb2 ⊢
  clear hap ho1 hf1 hs1 d1 d2 d3 d4 d5 c1 c2 c3 f1 f2 hr ho hf hs
  have d1 := blk_cell ho2 0
  have d2 := blk_frozen ho2 0
  have d3 := blk_cell hf2 0
  have d4 := blk_cell hs2 0
  have d5 := blk_frozen hf2 0
  have hB2 : B ≤ w2.heap.size := by have := hb2.size; omega
  have hl2 : (xs ++ [((to_ : Int) - f - 1) % 256]).length + (s.extract f to_).size ≤ 140737488355328 := by rw [List.length_append, List.length_singleton, ByteArray.size_extract]; omega
  go_region_law (refine appstr_step B rfl _ _ 59 9 5 rfl Tryz.underlying59 Tryz.underlying9 infoU8 (.slice A1 n1 m1) (xs ++ [((to_ : Int) - f - 1) % 256]) (s.extract f to_) rfl rfl hr2.drew hB2 hl2 ?_; intro v3 w3 hap; obtain ⟨A3, n3, m3, hv3, hn3⟩ := hap.row.shape; subst hv3; have ho3 := hap.blk hr2.drew ho2 (by decide); have hf3 := hap.blk hr2.drew hf2 (by decide); have hs3 := hap.blk hr2.drew hs2 (by decide); have e1 := blk_cell ho3 0; have e2 := blk_frozen ho3 0; have e3 := blk_cell hf3 0; have e4 := blk_cell hs3 0; have e5 := blk_frozen hf3 0)
  all_goals
   clear d1 d2 d3 d4 d5
   have hr4 := hap.row.set ho3 (by decide) 0 (.slice A3 n3 m3)
   have ho4 := blk_put1 ho3 (.slice A3 n3 m3)
   have hf4 := blk_else hf3 ho3 (by decide) 0 (.slice A3 n3 m3)
   have hs4 := blk_else hs3 ho3 (by decide) 0 (.slice A3 n3 m3)
   have hb4 := (hb2.drew.trans (hap.below hr2.drew hB2)).setCell (p := ⟨go, 0, none⟩) bo (.slice A3 n3 m3)
   generalize w3.setCell ⟨go, 0, none⟩ (.slice A3 n3 m3) = w4 at hr4 ho4 hf4 hs4 hb4 ⊢
   clear hap ho3 hf3 hs3 e1 e2 e3 e4 e5 hr2 ho2 hf2 hs2 hb2 hn3 hn1
   have d3 := blk_cell hf4 0
   have d5 := blk_frozen hf4 0
   go_wp2
   go_end0
   have hfl : flushed xs s f to_ = xs ++ [((to_ : Int) - f - 1) % 256] ++ bytesOf (s.extract f to_) := by unfold flushed; rw [if_pos hlt]
   refine ⟨rfl, .slice A3 n3 m3, blk_put1 hf4 _, blk_else ho4 hf4 (by decide) 0 _, blk_else hs4 hf4 (by decide) 0 _, ?_, hb4.setCell (p := ⟨gf, 0, none⟩) bf _⟩
   rw [hfl]
   exact hr4.set hf4 (by decide) 0 _
 ·have hd : decide ((f : Int) < (to_ : Int)) = false := decide_eq_false (by omega)
  have he : f = to_ := by omega
  subst he
  go_enter Tryz.func71, Tryz.ntmps71
  go_wp2
  go_end0
  have hfl : flushed xs s f f = xs := by unfold flushed; rw [if_neg hlt]
  refine ⟨rfl, v, blk_put1 hf _, blk_else ho hf (by decide) 0 _, blk_else hs hf (by decide) 0 _, ?_, (Below.refl _ _).setCell (p := ⟨gf, 0, none⟩) bf _⟩
  rw [hfl]
  exact hr.set hf (by decide) 0 _
def encL : Nat → ByteArray → Nat → Nat → List Int → Option (List Int)
 | 0, _, _, _, _ => none
 | k + 1, s, a, f, xs =>
  if f ≤ a ∧ a ≤ s.size ∧ s.size ≤ 1000000 ∧ xs.length ≤ 3000000 then
   (if a < s.size then
    ((runs_alike.f k (s.extract a s.size)).bind fun n =>
     if 3 ≤ n then (if n ≤ (s.size : Int) - a then encL k s (a + n.toNat) (a + n.toNat) (flushed xs s f a ++ [(257 - n) % 256, bt s a]) else none)
     else if a + 1 - f = 128 then encL k s (a + 1) (a + 1) (flushed xs s f (a + 1)) else encL k s (a + 1) f xs)
   else some (flushed xs s f a ++ [128]))
  else none
def runs_Encode.f (k : Nat) (a0 : ByteArray) : Option ByteArray := (encL k a0 0 0 []).map strOfNums
theorem flushed_length (xs : List Int) (s : ByteArray) (f to_ : Nat) (hts : to_ ≤ s.size) (hsz : s.size ≤ 1000000) : (flushed xs s f to_).length ≤ xs.length + 1000001 := by
 unfold flushed
 split
 ·rw [List.length_append, List.length_append, bytesOf_length, ByteArray.size_extract, List.length_singleton]; omega
 ·omega
set_option maxHeartbeats 4000000 in
theorem runs_Encode.calls (k : Nat) (a0 : ByteArray) (r : ByteArray) (w : World) (h : runs_Encode.f k a0 = some r) :
  Calls Tryz.prog 51 #[.string a0] w fun e w' => e = .returned (.string r) ∧ Below w.heap.size w w' := by
 unfold runs_Encode.f at h
 obtain ⟨R, hR, hr⟩ := Option.map_eq_some_iff.1 h
 have HRR := Aside0.mk hr
 have HR := Aside0.mk hR
 clear h hr hR
 go_enter Tryz.func51, Tryz.ntmps51
 go_wp2_with fail
 go_step3
 go_wp2_with fail
 go_step3
 go_wp2_with fail
 have hs0 := blk_alloc (blk_alloc (blk_new w (.cells #[.string a0] 9)) (.cells #[.slice none 0 0] 59)) (.cells #[.int .i64 0] 3)
 have ho0 := blk_alloc (blk_new (w.alloc (.cells #[.string a0] 9)) (.cells #[.slice none 0 0] 59)) (.cells #[.int .i64 0] 3)
 have hf0 := blk_new ((w.alloc (.cells #[.string a0] 9)).alloc (.cells #[.slice none 0 0] 59)) (.cells #[.int .i64 0] 3)
 have hb0 := below_alloc (below_alloc (below_alloc (Below.refl w.heap.size w) (.cells #[.string a0] 9)) (.cells #[.slice none 0 0] 59)) (.cells #[.int .i64 0] 3)
 simp only [World.size_alloc] at hs0 ho0 hf0
 obtain ⟨gs, hgs⟩ : ∃ g, g = w.heap.size := ⟨_, rfl⟩
 obtain ⟨go, hgo⟩ : ∃ g, g = w.heap.size + 1 := ⟨_, rfl⟩
 obtain ⟨gf, hgf⟩ : ∃ g, g = w.heap.size + 1 + 1 := ⟨_, rfl⟩
 rw [← hgf] at hf0
 rw [← hgo] at ho0
 have bo : w.heap.size ≤ go := by omega
 have bf : w.heap.size ≤ gf := by omega
 rw [← hgf, ← hgo]
 generalize ((w.alloc (.cells #[.string a0] 9)).alloc (.cells #[.slice none 0 0] 59)).alloc (.cells #[.int .i64 0] 3) = w0 at hs0 ho0 hf0 hb0 ⊢
 clear hgo hgf
 rw [← hgs] at hs0 ⊢
 clear hgs
 go_loopg [6] k (fun kq v6 wr => ∃ (a f : Nat) (xs : List Int) (v : Value), v6 = .int .i64 a ∧ Aside0 (encL kq a0 a f xs = some R) ∧ Aside0 (wr.heap[gf]? = some (.cells #[.int .i64 f] 3 (0, 0))) ∧
  Aside0 (wr.heap[go]? = some (.cells #[v] 59 (0, 0))) ∧ Aside0 (wr.heap[gs]? = some (.cells #[.string a0] 9 (0, 0))) ∧ Aside0 (Row wr w.heap.size 5 .u8 v xs) ∧ Aside0 (Below w.heap.size w wr))
 case atStart => exact ⟨0, 0, [], .slice none 0 0, rfl, HR, ⟨hf0⟩, ⟨ho0⟩, ⟨hs0⟩, ⟨Row.nil _ _ _ _⟩, ⟨hb0⟩⟩
 case round =>
  clear hs0 ho0 hf0 hb0 HR
  obtain ⟨a, f, xs, v, rfl, HA, HF, HO, HS, HW, HB⟩ := hrel
  cases gk with
  | zero => exact absurd HA.out (by simp [encL])
  | succ k1 =>
   have H := HA.out
   clear HA
   simp only [encL] at H
   by_cases hg : f ≤ a ∧ a ≤ a0.size ∧ a0.size ≤ 1000000 ∧ xs.length ≤ 3000000
   ·rw [if_pos hg] at H
    obtain ⟨g1, g2, g3, g4⟩ := hg
    have hBw : w.heap.size ≤ wr.heap.size := HB.out.size
    have c3 := blk_cell HS.out 0
    by_cases hlt : a < a0.size
    ·rw [if_pos hlt] at H
     replace H := Option.bind_eq_some_iff.1 H
     obtain ⟨n, Hn, H⟩ := H
     have HN := Aside0.mk Hn
     clear Hn
     by_cases h3 : 3 ≤ n
     ·rw [if_pos h3] at H
      by_cases h4 : n ≤ (a0.size : Int) - a
      ·rw [if_pos h4] at H
       obtain ⟨n, rfl⟩ := Int.eq_ofNat_of_zero_le (show 0 ≤ n by omega)
       simp only [Int.toNat_natCast] at H
       have H' := Aside0.mk H
       clear H
       go_wp2_with (first | (go_at_call 72; (with_reducible refine (runs_alike.calls k1 (a0.extract a a0.size) n _ HN.out).mono ?_); rintro e w1 ⟨rfl, hb1⟩))
       have hf1 := blk_below HF.out hb1
       have ho1 := blk_below HO.out hb1
       have hs1 := blk_below HS.out hb1
       have hr1 := HW.out.below hb1
       have hB1 : w.heap.size ≤ w1.heap.size := by have := hb1.size; omega
       have hbl1 : Below w.heap.size w w1 := HB.out.trans (hb1.mono hBw)
       clear HF HO HS HW HB hb1 c3 hBw
       refine (flush_calls gf go gs f a a0 v xs w.heap.size w1 hf1 ho1 hs1 hr1 g1 g2 g3 (by omega) bf bo hB1).mono ?_
       rintro e w2 ⟨rfl, v2, hf2, ho2, hs2, hr2, hb2⟩
       have hbl2 := hbl1.trans hb2
       have hfl := flushed_length xs a0 f a g2 g3
       clear hf1 ho1 hs1 hr1 hbl1 hb2
       obtain ⟨A2, n2, m2, hv2, hn2⟩ := hr2.shape
       subst hv2
       have d1 := blk_cell ho2 0
       have d2 := blk_frozen ho2 0
       have d3 := blk_cell hf2 0
       have d4 := blk_cell hs2 0
       have d5 := blk_frozen hf2 0
       have hB2 : w.heap.size ≤ w2.heap.size := hbl2.size
       have hbt : (a0[a].toNat : Int) = bt a0 a := (bt_nat a0 a hlt).symm
       generalize flushed xs a0 f a = ys at *
       go_wp2_with fail
       have q1 : IntKind.i64.wrap (257 - n) = 257 - n := IntWalk.i64_in _ (by omega)
       have q2 : IntKind.u8.wrap (257 - n) = (257 - n) % 256 := IntKind.wrap_u8 _
       have d6 := blk_cell (blk_alloc ho2 (.cells #[.int .u8 ((257 - n) % 256), .int .u8 (bt a0 a)] 5)) 0
       go_region_law (refine app_step w.heap.size rfl _ _ 59 5 .u8 1 rfl Tryz.underlying59 infoU8 (.slice A2 n2 m2) ys [(257 - n) % 256, bt a0 a] rfl ⟨w2.heap.size, 0, none⟩ 2 2 rfl rfl (news_lit w2 .u8 [(257 - n) % 256, bt a0 a] _ _ (by rfl)) ((hr2.alloc _).drew) (by simp; omega) (by unfold maxLen; omega) (by omega) ?_; intro v3 w3 hap; obtain ⟨A3, n3, m3, hv3, hn3⟩ := hap.row.shape; subst hv3; have ho3 := hap.blk (hr2.alloc _).drew (blk_drew (blk_alloc ho2 _)) (by decide); have hf3 := hap.blk (hr2.alloc _).drew (blk_drew (blk_alloc hf2 _)) (by decide); have hs3 := hap.blk (hr2.alloc _).drew (blk_drew (blk_alloc hs2 _)) (by decide); have e1 := blk_cell ho3 0; have e2 := blk_frozen ho3 0; have e3 := blk_cell hf3 0; have e4 := blk_cell hs3 0; have e5 := blk_frozen hf3 0)
       all_goals
        have hr4 := hap.row.set ho3 (by decide) 0 (.slice A3 n3 m3)
        have ho4 := blk_put1 ho3 (.slice A3 n3 m3)
        have hf4 := blk_else hf3 ho3 (by decide) 0 (.slice A3 n3 m3)
        have hs4 := blk_else hs3 ho3 (by decide) 0 (.slice A3 n3 m3)
        have hb4 := (((hbl2.alloc hB2 _).drew).trans (hap.below (hr2.alloc _).drew (by simp; omega))).setCell (p := ⟨go, 0, none⟩) bo (.slice A3 n3 m3)
        generalize w3.setCell ⟨go, 0, none⟩ (.slice A3 n3 m3) = w4 at hr4 ho4 hf4 hs4 hb4 ⊢
        clear hap ho3 hf3 hs3 e1 e2 e3 e4 e5 hr2 ho2 hf2 hs2 hbl2 hn3 hn2 d1 d2 d3 d4 d5 d6 q1 q2 hbt
        have d3 := blk_cell hf4 0
        have d5 := blk_frozen hf4 0
        go_wp2
        go_roundg k1
        case measure => omega
        case rel =>
         exact ⟨a + n, a + n, _, _, by go_num, H', ⟨blk_put1 hf4 _⟩, ⟨blk_else ho4 hf4 (by decide) 0 _⟩, ⟨blk_else hs4 hf4 (by decide) 0 _⟩, ⟨hr4.set hf4 (by decide) 0 _⟩, ⟨hb4.setCell (p := ⟨gf, 0, none⟩) bf _⟩⟩
      ·rw [if_neg h4] at H
       cases H
     ·rw [if_neg h3] at H
      have q0 : decide ((3 : Int) ≤ n) = false := decide_eq_false h3
      by_cases h5 : a + 1 - f = 128
      ·rw [if_pos h5] at H
       have H' := Aside0.mk H
       clear H
       have q1 : ((a : Int) + 1 - (f : Int) == 128) = true := beq_iff_eq.2 (by omega)
       have c5 := blk_cell HF.out 0
       go_wp2_with (first | (go_at_call 72; (with_reducible refine (runs_alike.calls k1 (a0.extract a a0.size) n _ HN.out).mono ?_); rintro e w1 ⟨rfl, hb1⟩; have c6 := pw_cell_below hb1 c5))
       have hf1 := blk_below HF.out hb1
       have ho1 := blk_below HO.out hb1
       have hs1 := blk_below HS.out hb1
       have hr1 := HW.out.below hb1
       have hB1 : w.heap.size ≤ w1.heap.size := by have := hb1.size; omega
       have hbl1 : Below w.heap.size w w1 := HB.out.trans (hb1.mono hBw)
       clear HF HO HS HW HB hb1 c3 hBw c5
       refine (flush_calls gf go gs f (a + 1) a0 v xs w.heap.size w1 hf1 ho1 hs1 hr1 (by omega) (by omega) g3 (by omega) bf bo hB1).mono ?_
       rintro e w2 ⟨rfl, v2, hf2, ho2, hs2, hr2, hb2⟩
       have hbl2 := hbl1.trans hb2
       clear hf1 ho1 hs1 hr1 hbl1 hb2
       go_wp2
       go_roundg k1
       case measure => omega
       case rel => exact ⟨a + 1, a + 1, _, _, by go_num, H', ⟨hf2⟩, ⟨ho2⟩, ⟨hs2⟩, ⟨hr2⟩, ⟨hbl2⟩⟩
      ·rw [if_neg h5] at H
       have H' := Aside0.mk H
       clear H
       have q1 : ((a : Int) + 1 - (f : Int) == 128) = false := beq_eq_false_iff_ne.2 (by omega)
       have c5 := blk_cell HF.out 0
       go_wp2_with (first | (go_at_call 72; (with_reducible refine (runs_alike.calls k1 (a0.extract a a0.size) n _ HN.out).mono ?_); rintro e w1 ⟨rfl, hb1⟩; have c6 := pw_cell_below hb1 c5))
       go_roundg k1
       case measure => omega
       case rel => exact ⟨a + 1, f, _, _, by go_num, H', ⟨blk_below HF.out hb1⟩, ⟨blk_below HO.out hb1⟩, ⟨blk_below HS.out hb1⟩, ⟨HW.out.below hb1⟩, ⟨HB.out.trans (hb1.mono hBw)⟩⟩
    ·rw [if_neg hlt] at H
     simp only [Option.some.injEq] at H
     have H' := Aside0.mk H
     clear H
     have hae : a = a0.size := by omega
     subst hae
     go_wp2_with fail
     have hf1 := HF.out
     have ho1 := HO.out
     have hs1 := HS.out
     have hr1 := HW.out
     have hbl1 := HB.out
     clear HF HO HS HW HB c3
     refine (flush_calls gf go gs f a0.size a0 v xs w.heap.size wr hf1 ho1 hs1 hr1 g1 g2 g3 (by omega) bf bo hBw).mono ?_
     rintro e w2 ⟨rfl, v2, hf2, ho2, hs2, hr2, hb2⟩
     have hbl2 := hbl1.trans hb2
     have hfl := flushed_length xs a0 f a0.size g2 g3
     clear hf1 ho1 hs1 hr1 hbl1 hb2
     have d1 := blk_cell ho2 0
     have hB2 : w.heap.size ≤ w2.heap.size := hbl2.size
     generalize flushed xs a0 f a0.size = ys at *
     go_wp2_with (first | (at_builtin; refine app_wp w.heap.size rfl _ _ 59 5 .u8 1 rfl Tryz.underlying59 infoU8 v2 ys [128] rfl ⟨w2.heap.size, 0, none⟩ 1 1 rfl rfl (news_lit w2 .u8 [128] _ _ (by rfl)) (hr2.alloc _) (by simp; omega) (by unfold maxLen; omega) (by omega) ?_; intro v3 w3 hap; have ks := fun dst hd => hap.row.str (P := Tryz.prog) (src := 59) (dst := dst) Tryz.underlying59 Tryz.underlying5 hd; have kq := ks 9 Tryz.underlying9; clear ks))
     rw [Exit.noGoto_ret]
     go_ret
     rw [← HRR.out, ← H'.out]
     exact ⟨rfl, hbl2.trans (hap.below1 hr2 hB2)⟩
   ·rw [if_neg hg] at H
    cases H
theorem encL_mono : ∀ (k : Nat) (s : ByteArray) (a f : Nat) (xs : List Int), LeO (encL k s a f xs) (encL (k + 1) s a f xs)
 | 0 => fun _ _ _ _ r h => by simp [encL] at h
 | k + 1 => by
  have ih := encL_mono k
  intro s a f xs
  rw [encL, encL]
  repeat' first
   | (with_reducible exact ih _ _ _ _)
   | (with_reducible exact LeO.refl _)
   | (with_reducible exact LeO.none _)
   | (with_reducible refine LeO.ite ?_ ?_)
   | (with_reducible refine LeO.bind (runs_alike.mono _ _) (fun _ => ?_))
theorem runs_Encode.mono : ∀ a0 k, LeO (runs_Encode.f k a0) (runs_Encode.f (k + 1) a0) := by
 intro a0 k
 unfold runs_Encode.f
 exact LeO.map _ (encL_mono k a0 0 0 [])
end Go.Proofs.YtghoifkaikddlaaGreat.Hand
