/- The scanner of layer 15: word; walked by hand. -/
import Derived.Test.YtkmmmlbppobifaaHand15h
import Derived.Test.YtkmmmlbppobifaaHand15d
import Derived.Deep.RegionHeld3
namespace Go.Proofs.Ytkmmmlbppobifaa.Hand
open Go.RowKit Go.Proofs.YtkmmmlbppobifaaW.PrintWords Go.Proofs.YtkmmmlbppobifaaW.PrintLast Go.Proofs.YtkmmmlbppobifaaW.PrintMore Go.Proofs.Ytkmmmlbppobifaa.Num Go.Proofs.Ytkmmmlbppobifaa.P01a
set_option linter.unusedVariables false
set_option linter.unusedSimpArgs false
theorem litC15 (W : World) (b : Nat) (hb : b = W.heap.size) (xs : List Int) (cs : Array Value) (e : TypeId) (hcs : cs = (nums .i64 xs).toArray) (hl : xs.length ≤ 1000) : Kd.C (Kd.int .i64) (W.alloc (.cells cs e)) (some ⟨b, 0, none⟩) xs.length xs := by
 subst hb
 refine ⟨rfl, by omega, fun _ => ⟨_, rfl, fun j p hp => ⟨[.int .i64 p], rfl, rfl, fun i u hu => ?_⟩⟩⟩
 have hn := news_lit W .i64 xs cs e hcs j (.int .i64 p) (by rw [nums, List.getElem?_map, hp]; rfl)
 cases i with
 | zero =>
  simp only [List.getElem?_cons_zero, Option.some.injEq] at hu
  subst hu
  have e1 : j * (Kd.int .i64).sz + 0 = j := by show j * 1 + 0 = j; omega
  rw [e1]
  exact hn
 | succ i => simp at hu
def spanN (ks : List Int) (s : ByteArray) (p : Nat) : Nat := spanL ks ((bytesOf s).drop p)
theorem spanN_le (ks : List Int) (s : ByteArray) (p : Nat) (hp : p ≤ s.size) : p + spanN ks s p ≤ s.size := by
 have := spanL_le ks ((bytesOf s).drop p)
 rw [List.length_drop, bytesOf_length] at this
 unfold spanN; omega
theorem span_calls1 (s : ByteArray) (p : Nat) (k : Int) (hs : s.size ≤ 1000000) (hp : p ≤ s.size) (W : World) (b : Nat) (hb : b = W.heap.size) :
  Calls Try.prog 24 #[.string s, .int .i64 (p : Int), .slice (some ⟨b, 0, none⟩) 1 1] (W.alloc (.cells #[.int .i64 k] 3)).drew (fun e w' => e = .returned (.int .i64 (spanN [k] s p : Int)) ∧ Drawn0 (W.alloc (.cells #[.int .i64 k] 3)).drew w') :=
 octet_Span.calls s p _ 1 [k] _ _ (show Kd.C (Kd.int .i64) (W.alloc (.cells #[.int .i64 k] 3)).drew (some ⟨b, 0, none⟩) [k].length [k] from litC15 W b hb [k] _ _ rfl (by simp)) (Nat.le_refl _) (by
  unfold octet_Span.f
  rw [if_pos ⟨hs, by simp⟩]
  by_cases h : p < s.size
  ·rw [if_pos ⟨by omega, by omega⟩, Int.toNat_natCast]; rfl
  ·rw [if_neg (by omega)]
   have : spanN [k] s p = 0 := by have := spanN_le [k] s p hp; omega
   rw [this]; rfl)
def wordF (s : ByteArray) (p : Nat) : Int × Int × Int × ByteArray × Nat :=
 let q := p + spanN [2] s p
 let t := s.extract p q
 if (looseF t).2 = 0 then (0, 1, (looseF t).1, ⟨#[]⟩, q)
 else if (looseF t).2 = 3 then (3, 0, 0, ⟨#[]⟩, 0)
 else if 127 < t.size then (8, 0, 0, ⟨#[]⟩, 0)
 else (0, 8, 0, t, q)
theorem wordF_def {s : ByteArray} {p q : Nat} {t : ByteArray} {n c : Int} (hq : q = p + spanN [2] s p) (ht : t = s.extract p q) (hn : n = (looseF t).1) (hc : c = (looseF t).2) :
  wordF s p = if c = 0 then (0, 1, n, ⟨#[]⟩, q) else if c = 3 then (3, 0, 0, ⟨#[]⟩, 0) else if 127 < t.size then (8, 0, 0, ⟨#[]⟩, 0) else (0, 8, 0, t, q) := by
 subst hn hc ht hq; rfl
set_option maxRecDepth 100000 in
set_option maxHeartbeats 4000000 in
theorem word_calls (w : World) (B g : Nat) (s : ByteArray) (p : Nat) (o : List Int) (h : ScAt w B g s p o) (hs : s.size ≤ 60000) (hp : p ≤ s.size) (hB : B ≤ w.heap.size) :
  Calls Try.prog 32 #[.pointer (some ⟨g, 0, none⟩)] w (TkPost B g s w (wordF s p)) := by
 have HT := Aside0.mk (Tz.new h)
 obtain ⟨z, hz⟩ : ∃ z, z = w.heap.size := ⟨_, rfl⟩
 have hsp := spanN_le [2] s p hp
 obtain ⟨n, hn⟩ : ∃ n, n = spanN [2] s p := ⟨_, rfl⟩
 obtain ⟨q, hq⟩ : ∃ q, q = p + n := ⟨_, rfl⟩
 obtain ⟨t, ht⟩ : ∃ t, t = s.extract p q := ⟨_, rfl⟩
 have hts : t.size = n := by rw [ht, ByteArray.size_extract]; omega
 have KL := Aside0.mk (fun W => loose_calls t W (by omega))
 obtain ⟨x, hx⟩ : ∃ x, x = (looseF t).1 := ⟨_, rfl⟩
 obtain ⟨c, hc⟩ : ∃ c, c = (looseF t).2 := ⟨_, rfl⟩
 have hdef := wordF_def (by rw [hq, hn]) ht hx hc
 obtain ⟨res, hres⟩ : ∃ res, res = wordF s p := ⟨_, rfl⟩
 rw [← hres]
 rw [← hres] at hdef
 have HD := Aside0.mk hdef
 rw [← hx, ← hc] at KL
 have KS := Aside0.mk (fun (W : World) (b : Nat) (hb : b = W.heap.size) => span_calls1 s p 2 (by omega) hp W b hb)
 rw [← hn] at KS
 have e1 : (p : Int) + (n : Int) = (q : Int) := by omega
 have i1 : (0 : Int) ≤ (p : Int) := by omega
 have i2 : (p : Int) ≤ (q : Int) := by omega
 have i3 : (q : Int) ≤ (s.size : Int) := by omega
 have HX := Aside0.mk ht
 have hqs : q ≤ 60000 := by omega
 rw [← hn] at hsp
 have iw : IntKind.i64.wrap (q : Int) = (q : Int) := IntWalk.i64_in _ (by omega)
 clear h hx hc hdef hn hq ht hres
 go_enter Try.func32, Try.ntmps32
 go_upto_region 1 with fail
 rw [← hz] at HT ⊢
 clear hz
 generalize World.alloc w _ = W0 at HT ⊢
 obtain ⟨A, na, ca, hna, hb, hr, c0, c1, c2, f1, f2⟩ := HT.out.sc.cells
 clear hna hr c2 f2
 have d0 : ∀ o, (W0.alloc o).cell? ⟨g, 0, none⟩ = some (.string s) := fun o => blk_cell (blk_alloc hb o) 0
 have d1 : ∀ o, (W0.alloc o).cell? ⟨g, 1, none⟩ = some (.int .i64 (p : Int)) := fun o => blk_cell (blk_alloc hb o) 1
 go_wp2_with fail
 clear hb
 go_region_held3 (fun w' => w'.cell? ⟨g, 0, none⟩ = some (.string s) ∧ w'.cell? ⟨g, 1, none⟩ = some (.int .i64 (p : Int))) (first | exact ⟨c0, c1⟩ | exact ⟨d0 _, d1 _⟩ | (simp [*])) (first | (go_at_call 24; (with_reducible refine (KS.out _ _ ?hb).mono ?_); (case hb => first | rfl | (simp; done)); rintro e W2 ⟨rfl, ⟨nd, rfl⟩⟩))
 go_upto_region 2 with fail
 rw [← HX.out]
 have HT1 := Aside0.mk (((HT.out.below (below_alloc (Below.refl W0.heap.size W0) (.cells #[.int .i64 2] 3)))).drawn (W1 := (W0.alloc (.cells #[.int .i64 2] 3)).drewN (1 + nd)) ⟨_, rfl⟩)
 generalize World.drewN (World.alloc W0 _) _ = W1 at HT1 ⊢
 clear c0 c1 f1 d0 d1 HT KS na ca A i1 i2 i3
 obtain ⟨A, na, ca, hna, hb, hr, c0, c1, c2, f1, f2⟩ := HT1.out.sc.cells
 have HM := Aside0.mk (HT1.out.move q)
 clear hna hb hr c0 c2 f2
 go_upto_region 3 with fail
 generalize World.setCell W1 _ _ = W2 at HM ⊢
 clear HT1 c1 f1 e1 iw A na ca
 go_upto_block 0 with (first | (go_at_call 47; (with_reducible refine (KL.out _).mono ?_); rintro e W3 ⟨rfl, hb3⟩))
 have HM3 := Aside0.mk (HM.out.below hb3)
 clear KL hb3 HM
 by_cases h0 : c = 0
 ·subst h0
  have hd := HD.out
  rw [if_pos rfl] at hd
  subst hd
  have zb := HM3.out.zb
  have HP := HM3.out.put (tokC 1 x ⟨#[]⟩ 0 0)
  clear HD
  go_wp2_with (refine wpList_store_rowTo rfl 24 _ _ rfl rfl z (tokC 1 x ⟨#[]⟩ 0 0) rfl rfl 24 _ zb tokInfo rfl (tok_one _ _ _ _ _) ?_)
  repeat (rw [Exit.noGoto_ret])
  exact bodyPost_ret (results_ct rfl _ _ z 24 (tokC 1 x ⟨#[]⟩ 0 0) (0, 0) _ rfl HP.1 Try.underlying24 rfl tokInfo) rfl (TkPost.mk_ rfl HP.2.1 (fun _ => rfl) HP.2.2)
 ·have t0 : (c == 0) = false := beq_false_of_ne h0
  by_cases h3 : c = 3
  ·subst h3
   have hd := HD.out
   rw [if_neg (by decide), if_pos rfl] at hd
   subst hd
   clear HD h0
   go_wp2_with fail
   refine (bad_calls 3 _).mono ?_
   rintro e W6 ⟨rfl, hb6⟩
   have HT6 := Aside0.mk (HM3.out.below hb6)
   have zb := HT6.out.zb
   have HP := HT6.out.put (tokC 0 0 ⟨#[]⟩ 0 0)
   clear hb6
   go_wp2_with (refine wpList_store_rowTo rfl 24 _ _ rfl rfl z (tokC 0 0 ⟨#[]⟩ 0 0) rfl rfl 24 _ zb tokInfo rfl (tok_one _ _ _ _ _) ?_)
   repeat (rw [Exit.noGoto_ret])
   exact bodyPost_ret (results_ct rfl _ _ z 24 (tokC 0 0 ⟨#[]⟩ 0 0) (0, 0) _ rfl HP.1 Try.underlying24 rfl tokInfo) rfl (TkPost.mk_ rfl HP.2.1 (fun h => absurd h (by decide)) HP.2.2)
  ·have t3 : (c == 3) = false := beq_false_of_ne h3
   by_cases h8 : 127 < t.size
   ·have t8 : decide ((127 : Int) < (t.size : Int)) = true := decide_eq_true (by omega)
    have t8n : decide (127 < t.size) = true := decide_eq_true h8
    have t9 : decide ((127 : Int) < (n : Int)) = true := decide_eq_true (by omega)
    have hd := HD.out
    rw [if_neg h0, if_neg h3, if_pos h8] at hd
    subst hd
    clear HD h0 h3 h8
    go_wp2_with fail
    refine (bad_calls 8 _).mono ?_
    rintro e W6 ⟨rfl, hb6⟩
    have HT6 := Aside0.mk (HM3.out.below hb6)
    have zb := HT6.out.zb
    have HP := HT6.out.put (tokC 0 0 ⟨#[]⟩ 0 0)
    clear hb6
    go_wp2_with (refine wpList_store_rowTo rfl 24 _ _ rfl rfl z (tokC 0 0 ⟨#[]⟩ 0 0) rfl rfl 24 _ zb tokInfo rfl (tok_one _ _ _ _ _) ?_)
    repeat (rw [Exit.noGoto_ret])
    exact bodyPost_ret (results_ct rfl _ _ z 24 (tokC 0 0 ⟨#[]⟩ 0 0) (0, 0) _ rfl HP.1 Try.underlying24 rfl tokInfo) rfl (TkPost.mk_ rfl HP.2.1 (fun h => absurd h (by decide)) HP.2.2)
   ·have t8 : decide ((127 : Int) < (t.size : Int)) = false := decide_eq_false (by omega)
    have t8n : decide (127 < t.size) = false := decide_eq_false h8
    have t9 : decide ((127 : Int) < (n : Int)) = false := decide_eq_false (by omega)
    have hd := HD.out
    rw [if_neg h0, if_neg h3, if_neg h8] at hd
    subst hd
    have zb := HM3.out.zb
    have HP := HM3.out.put (tokC 8 0 t 0 0)
    clear HD h0 h3 h8
    go_wp2_with (refine wpList_store_rowTo rfl 24 _ _ rfl rfl z (tokC 8 0 t 0 0) rfl rfl 24 _ zb tokInfo rfl (tok_one _ _ _ _ _) ?_)
    repeat (rw [Exit.noGoto_ret])
    exact bodyPost_ret (results_ct rfl _ _ z 24 (tokC 8 0 t 0 0) (0, 0) _ rfl HP.1 Try.underlying24 rfl tokInfo) rfl (TkPost.mk_ rfl HP.2.1 (fun _ => rfl) HP.2.2)
end Go.Proofs.Ytkmmmlbppobifaa.Hand
