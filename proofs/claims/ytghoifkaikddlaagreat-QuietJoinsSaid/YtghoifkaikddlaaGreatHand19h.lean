/- The law's own 'Same' and 'hidden' of layer 19; walked by hand. -/
import Derived.Test.YtghoifkaikddlaaGreatHand19n
import Derived.Test.YtghoifkaikddlaaGreatHand14r
namespace Go.Proofs.YtghoifkaikddlaaGreat.Hand
open Go.RowKit Go.Proofs.YtghoifkaikddlaaGreatW.PrintWords Go.Proofs.YtghoifkaikddlaaGreatW.PrintLast Go.Proofs.YtghoifkaikddlaaGreat.Num
set_option linter.unusedVariables false
set_option linter.unusedSimpArgs false
theorem ext_strs {l m : List ByteArray} (h : l.length = m.length) (hi : ∀ i, i < l.length → l.getD i ⟨#[]⟩ = m.getD i ⟨#[]⟩) : l = m := by
  refine List.ext_getElem h (fun i h1 h2 => ?_)
  have := hi i h1
  rwa [List.getD_eq_getElem?_getD, List.getElem?_eq_getElem h1, List.getD_eq_getElem?_getD, List.getElem?_eq_getElem h2] at this
theorem toList_inj {a b : ByteArray} : a.toList = b.toList ↔ a = b := by
  rw [ByteArray.toList_eq, ByteArray.toList_eq]
  exact ⟨fun h => ByteArray.ext (Array.toList_inj.1 h), fun h => by rw [h]⟩
set_option maxRecDepth 100000 in
set_option maxHeartbeats 8000000 in
theorem same_calls (A1 A2 : Option Addr) (n1 n2 k1 k2 : Nat) (l1 l2 : List ByteArray) (w : World) (e1 : n1 = l1.length) (e2 : n2 = l2.length) (h1 : Strs w A1 l1) (h2 : Strs w A2 l2) (hn1 : n1 ≤ 1000) (hn2 : n2 ≤ 1000) :
    Calls Tryz.prog 15 #[.slice A1 n1 k1, .slice A2 n2 k2] w fun e w' => e = .returned (.bool (decide (l1 = l2))) ∧ Below w.heap.size w w' := by
  have E1 := Aside0.mk e1
  have E2 := Aside0.mk e2
  clear e1 e2
  by_cases hn : n1 = n2
  · subst hn
    obtain ⟨r, hr⟩ : ∃ r, r = decide (l1 = l2) := ⟨_, rfl⟩
    rw [← hr]
    have HR := Aside0.mk hr
    clear hr
    go_enter Tryz.func15, Tryz.ntmps15
    go_wp2_with fail
    go_loopw [5] (fun v5 wr => ∃ i : Nat, i ≤ n1 ∧ v5 = .int .i64 (i : Int) ∧ Aside0 (∀ j, j < i → l1.getD j ⟨#[]⟩ = l2.getD j ⟨#[]⟩) ∧ Aside0 (Below w.heap.size w wr)) (fun v5 _ => n1 - (intOf v5).toNat)
    case atStart => exact ⟨0, Nat.zero_le _, rfl, ⟨fun j hj => absurd hj (Nat.not_lt_zero j)⟩, ⟨Below.refl _ _⟩⟩
    case round =>
      obtain ⟨i, hi, rfl, HI, HB⟩ := hrel
      by_cases hlt : i < n1
      · have r1 : decide ((i : Int) < (n1 : Int)) = true := decide_eq_true (by omega)
        obtain ⟨ad1, rfl, c1⟩ := (h1.below HB.out) i (by have := E1.out; omega)
        obtain ⟨ad2, rfl, c2⟩ := (h2.below HB.out) i (by have := E2.out; omega)
        obtain ⟨x, hx⟩ : ∃ x, x = l1.getD i ⟨#[]⟩ := ⟨_, rfl⟩
        obtain ⟨y, hy⟩ : ∃ y, y = l2.getD i ⟨#[]⟩ := ⟨_, rfl⟩
        rw [← hx] at c1
        rw [← hy] at c2
        have HX := Aside0.mk (And.intro hx hy)
        clear hx hy
        by_cases hxy : x = y
        · have tq : (x.toList == y.toList) = true := by rw [hxy, beq_self_eq_true]
          have HXY := Aside0.mk hxy
          clear hxy
          go_wp2_with fail
          go_region
          go_wp2_with fail
          go_roundw
          case rel => exact ⟨i + 1, by omega, by go_num, ⟨fun j hj => by
            rcases Nat.lt_or_ge j i with h | h
            · exact HI.out j h
            · obtain rfl : j = i := by omega
              rw [← HX.out.1, ← HX.out.2]; exact HXY.out⟩, ⟨below_drew HB.out⟩⟩
          case measure => simp [intOf]; omega
        · have tq : (x.toList == y.toList) = false := beq_false_of_ne (fun h => hxy (toList_inj.1 h))
          have hr := HR.out
          rw [decide_eq_false (fun h => hxy (by rw [HX.out.1, HX.out.2, h]))] at hr
          subst hr
          clear HR hxy
          go_wp2_with fail
          go_region
          go_wp2_with fail
          repeat (rw [Exit.noGoto_ret])
          show bodyPost _ _ _ _ _ _
          go_ret
          exact ⟨rfl, below_drew HB.out⟩
      · have r1 : decide ((i : Int) < (n1 : Int)) = false := decide_eq_false (by omega)
        obtain rfl : i = n1 := by omega
        have hr := HR.out
        rw [decide_eq_true (ext_strs (E1.out.symm.trans E2.out) (fun j hj => HI.out j (by have := E1.out; omega)))] at hr
        subst hr
        go_wp2_with fail
        go_ret
        exact ⟨rfl, HB.out⟩
  · have hr : decide (l1 = l2) = false := decide_eq_false (fun h => hn (by rw [E1.out, E2.out, h]))
    rw [hr]
    have t0 : ((n1 : Int) != (n2 : Int)) = true := bne_iff_ne.2 (by omega)
    have t1 : (n1 != n2) = true := bne_iff_ne.2 hn
    clear hr hn
    go_enter Tryz.func15, Tryz.ntmps15
    go_wp2
    go_ret
    exact ⟨rfl, Below.refl _ _⟩
/-- runs alone. -/
noncomputable def onR (k : Nat) (s : ByteArray) : ByteArray := if k = 2 then runsF s else s
theorem onR_ok : OnOk onR (· = 2) where
  c1 := fun h => absurd h (by decide)
  c2 := fun _ s w hs => runsF_calls s w hs
  c3 := fun h => absurd h (by decide)
  sz := fun k s hk hs => by
    subst hk
    exact runsF_size s hs
abbrev xrefB : ByteArray := ⟨#[120, 114, 101, 102]⟩
abbrev aB : ByteArray := ⟨#[97]⟩
theorem runsF_a : runsF aB = ⟨#[0, 97, 128]⟩ := runsF_eq (by decide) (Ev.of (fun k => runs_Encode.mono _ k) (k := 20) (by decide +kernel))
theorem chk_nil : chkF [] 0 = 0 := by decide
theorem chk_runs : chkF [runsN] 0 = 0 := by decide +kernel
theorem strs_none (w : World) (A : Option Addr) : Strs w A [] := fun i hi => absurd hi (Nat.not_lt_zero i)
theorem enc_xref : encF onR (fun _ _ => (⟨#[]⟩, 0)) [] 0 xrefB = (xrefB, 0) := by unfold encF; rw [if_pos chk_nil]; rfl
theorem enc_a : encF onR (fun _ _ => (⟨#[]⟩, 0)) [runsN] 0 aB = (⟨#[0, 97, 128]⟩, 0) := by
  unfold encF
  rw [if_pos chk_runs, if_neg (by decide)]
  show (onR (kn runsN) aB, (0 : Int)) = _
  rw [show kn runsN = 2 by decide, show onR 2 aB = runsF aB from rfl, runsF_a]
theorem nam_xref : namF [] (xrefB, 0) = ([hexN], 0) := by unfold namF; rw [if_pos rfl, if_pos (by decide +kernel), if_neg (by decide)]
theorem nam_a : namF [runsN] (⟨#[0, 97, 128]⟩, 0) = ([runsN], 0) := by unfold namF; rw [if_pos rfl, if_neg (by decide +kernel)]
theorem namx_calls (w : World) : Calls Tryz.prog 11 #[.slice none 0 0, .int .i64 0, .string xrefB] w fun e w' => ∃ v, e = .returned (.tuple #[v, .int .i64 0]) ∧ OwnS w' w.heap.size v [hexN] ∧ Below w.heap.size w w' := by
  have h := names_calls none 0 0 [] 0 xrefB (xrefB, 0) w rfl (by omega) (strs_none _ _) (by decide) (fun W hW => by
    have h := encode_calls onR (fun _ _ => (⟨#[]⟩, 0)) (· = 2) onR_ok none 0 0 [] 0 xrefB W rfl hW (fun i hi => absurd hi (Nat.not_lt_zero i)) (by decide) (fun _ h => absurd h (by decide))
    rw [enc_xref] at h
    exact h)
  rw [nam_xref] at h
  exact h
theorem nama_calls (A : Option Addr) (k : Nat) (w : World) (hA : Strs w A [runsN]) : Calls Tryz.prog 11 #[.slice A 1 k, .int .i64 0, .string aB] w fun e w' => ∃ v, e = .returned (.tuple #[v, .int .i64 0]) ∧ OwnS w' w.heap.size v [runsN] ∧ Below w.heap.size w w' := by
  have h := names_calls A 1 k [runsN] 0 aB (⟨#[0, 97, 128]⟩, 0) w rfl (by omega) hA (by decide) (fun W hW => by
    have h := encode_calls onR (fun _ _ => (⟨#[]⟩, 0)) (· = 2) onR_ok A 1 k [runsN] 0 aB W rfl hW (fun i hi => by
      obtain rfl : i = 0 := by simp at hi; omega
      show kn runsN = 2
      decide) (by decide) (fun _ h => absurd h (by decide))
    rw [enc_a] at h
    exact h)
  rw [nam_a] at h
  exact h
theorem same_t (A1 A2 : Option Addr) (k1 k2 : Nat) (x : ByteArray) (w : World) (h1 : Strs w A1 [x]) (h2 : Strs w A2 [x]) :
    Calls Tryz.prog 15 #[.slice A1 1 k1, .slice A2 1 k2] w fun e w' => e = .returned (.bool true) ∧ Below w.heap.size w w' := by
  have h := same_calls A1 A2 1 1 k1 k2 [x] [x] w rfl rfl h1 h2 (by omega) (by omega)
  rw [decide_eq_true rfl] at h
  exact h
theorem loud1 : loudB ⟨#[97, 110, 32, 111, 98, 106, 101, 99, 116]⟩ = true := by decide +kernel
theorem loud2 : loudB ⟨#[111, 98, 32, 106]⟩ = false := by decide +kernel
theorem OwnS.below {w w1 : World} {B : Nat} {v : Value} {l : List ByteArray} (h : OwnS w B v l) (hb : Below w.heap.size w w1) : OwnS w1 B v l := by
  unfold OwnS at h ⊢
  rcases h.2 with ⟨h0, h1⟩ | ⟨g, cap, cur, h0, h1, h2, h3⟩
  · exact ⟨h.1, .inl ⟨h0, h1⟩⟩
  · exact ⟨h.1, .inr ⟨g, cap, cur, h0, h1, (hb.block g (by
      rcases Nat.lt_or_ge g w.heap.size with h | h
      · exact h
      · rw [Array.getElem?_eq_none h] at h2; cases h2)).trans h2, h3⟩⟩
set_option maxRecDepth 100000 in
set_option maxHeartbeats 8000000 in
theorem hidden_calls (w : World) : Calls Tryz.prog 10 #[] w fun e w' => e = .returned (.bool true) ∧ Below w.heap.size w w' := by
  have K1 := Aside0.mk (fun W => namx_calls W)
  have KL1 := Aside0.mk (fun W => loud_calls ⟨#[97, 110, 32, 111, 98, 106, 101, 99, 116]⟩ W (by decide))
  have KL2 := Aside0.mk (fun W => loud_calls ⟨#[111, 98, 32, 106]⟩ W (by decide))
  rw [loud1] at KL1
  rw [loud2] at KL2
  go_enter Tryz.func10, Tryz.ntmps10
  go_wp2_with (first | (go_at_call 11; (with_reducible refine (K1.out _).mono ?_); rintro e w1 ⟨v1, rfl, hv1, hb1⟩; obtain ⟨A1, c1, rfl⟩ := hv1.shape; have HV1 := Aside0.mk hv1; have HB1 := Aside0.mk hb1; clear hv1 hb1) | (go_at_call 11; refine (nama_calls _ _ _ (strs_lit w1 runsN)).mono ?_; rintro e w2 ⟨v2, rfl, hv2, hb2⟩; obtain ⟨A2, c2, rfl⟩ := hv2.shape; have HV2 := Aside0.mk hv2; have DB2 := Aside0.mk hb2; have HB2 := Aside0.mk ((below_alloc HB1.out (.cells #[.string runsN] 9)).trans (hb2.mono (below_alloc HB1.out (.cells #[.string runsN] 9)).size)); clear hv2 hb2) | (go_at_call 13; (with_reducible refine (KL1.out _).mono ?_); rintro e w3 ⟨rfl, hb3⟩; have HB3 := Aside0.mk (HB2.out.trans (hb3.mono HB2.out.size)); have D1 := Aside0.mk (((HV1.out.below ((below_alloc (Below.refl w1.heap.size w1) (.cells #[.string runsN] 9)).trans (DB2.out.mono (by simp)))).below hb3)); have D2 := Aside0.mk (HV2.out.below hb3); clear HV1 HV2 hb3) | (go_at_call 13; (with_reducible refine (KL2.out _).mono ?_); rintro e w4 ⟨rfl, hb4⟩; have HB4 := Aside0.mk (HB3.out.trans (hb4.mono HB3.out.size)); have E1 := Aside0.mk (D1.out.below hb4); have E2 := Aside0.mk (D2.out.below hb4); clear D1 D2 hb4) | (go_at_call 15; refine (same_t _ _ _ _ hexN _ (E1.out.below (below_alloc (Below.refl w4.heap.size w4) _)).strs (strs_lit w4 hexN)).mono ?_; rintro e w5 ⟨rfl, hb5⟩; have BA := (below_alloc (Below.refl w4.heap.size w4) (.cells #[.string hexN] 9)).trans (hb5.mono (by simp)); have HB5 := Aside0.mk (HB4.out.trans (BA.mono HB4.out.size)); have G2 := Aside0.mk (E2.out.below BA); clear E1 E2 BA hb5) | (go_at_call 15; refine (same_t _ _ _ _ runsN _ (G2.out.below (below_alloc (Below.refl w5.heap.size w5) _)).strs (strs_lit w5 runsN)).mono ?_; rintro e w6 ⟨rfl, hb6⟩; have HB6 := Aside0.mk (HB5.out.trans (((below_alloc (Below.refl w5.heap.size w5) (.cells #[.string runsN] 9)).trans (hb6.mono (by simp))).mono HB5.out.size)); clear G2 hb6))
  go_ret
  exact ⟨rfl, HB6.out⟩
end Go.Proofs.YtghoifkaikddlaaGreat.Hand
