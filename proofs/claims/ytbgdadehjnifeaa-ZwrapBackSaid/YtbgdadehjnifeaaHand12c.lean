/- binderylaw12.ZwrapBack answers true: walked by hand. -/
import Derived.Test.YtbgdadehjnifeaaP12wx1
import Derived.Test.YtbgdadehjnifeaaLem12z
namespace Go.Proofs.Ytbgdadehjnifeaa.Hand
open Go.RowKit Go.Proofs.Ytbgdadehjnifeaa.P12w Go.Proofs.YtbgdadehjnifeaaW.PrintWords Go.Proofs.YtbgdadehjnifeaaW.PrintLast Go.Proofs.YtbgdadehjnifeaaW.PrintMore Go.Proofs.Ytbgdadehjnifeaa.Num Go.Proofs.Ytbgdadehjnifeaa.Bits
set_option linter.unusedVariables false
set_option linter.unusedSimpArgs false
set_option maxRecDepth 100000
theorem zb_wrapped_f : binderylaw12_wrapped.f = some true := by
  have hu : ∀ (s : ByteArray) (m : Int), s.size ≤ 1000000 → m ≤ 10000000 → zwrap_Unwrap.f s m = some (unwrapF s m) := fun s m h1 h2 => by unfold zwrap_Unwrap.f; rw [if_pos ⟨h1, h2⟩]
  have hw : ∀ (s : ByteArray), s.size ≤ 100000 → zwrap_Wrap.f s = some (wrapF s) := fun s h => by unfold zwrap_Wrap.f; rw [if_pos h]
  unfold binderylaw12_wrapped.f
  rw [hu _ _ (by decide) (by decide), hu _ _ (by decide) (by decide), hu _ _ (by decide) (by decide), hu _ _ (by decide) (by decide), hw _ (by decide), zw1, zw2, zw3, zw4, zw5]
  simp only [Option.bind_some, ByteArray.toList_eq]
  rfl
theorem wrapped_true (w : World) : Calls Try.prog 7 #[] w fun e w' => e = .returned (.bool true) ∧ Below w.heap.size w w' := binderylaw12_wrapped.calls true w zb_wrapped_f
theorem unwrap_is (s : ByteArray) (m c : Int) (hs : s.size ≤ 1000000) (hm : m ≤ 10000000) (h : (unwrapF s m).2 = c) (W : World) :
    Calls Try.prog 8 #[.string s, .int .i64 m] W fun e w' => ∃ x, e = .returned (.tuple #[.string x, .int .i64 c]) ∧ Below W.heap.size W w' :=
  (unwrap_calls W s m hs hm).mono (by rintro e w2 ⟨rfl, hb⟩; exact ⟨_, by rw [h], hb⟩)
set_option maxHeartbeats 2000000 in
theorem zwrapBack_walk (s : ByteArray) (cut at_ by_ : Int) (w : World) (ws : s.size ≤ 140737488351232) (wc : (Lit.int .u16 cut).wf = true) (wa : (Lit.int .u8 at_).wf = true) (wb : (Lit.int .u8 by_).wf = true) :
    Calls Try.prog 4 #[.string s, .int .u16 cut, .int .u8 at_, .int .u8 by_] w fun e w' => e = .returned (.bool true) ∧ Below w.heap.size w w' := by
  by_cases h3 : 3000 < s.size
  · have hd : decide ((3000 : Int) < (s.size : Int)) = true := decide_eq_true (by omega)
    go_enter Try.func4, Try.ntmps4
    go_wp2_with fail
    refine (wrapped_true w).mono ?_
    rintro e w1 ⟨rfl, hb⟩
    go_wp2_with fail
    go_returns
    exact ⟨rfl, hb⟩
  · have hd : decide ((3000 : Int) < (s.size : Int)) = false := decide_eq_false (by omega)
    have c0 : 0 ≤ cut ∧ cut ≤ 65535 := by simpa [Lit.wf, IntKind.min, IntKind.max, IntKind.bits, IntKind.signed] using wc
    have a0 : 0 ≤ at_ ∧ at_ ≤ 255 := by simpa [Lit.wf, IntKind.min, IntKind.max, IntKind.bits, IntKind.signed] using wa
    have b0 : 0 ≤ by_ ∧ by_ ≤ 255 := by simpa [Lit.wf, IntKind.min, IntKind.max, IntKind.bits, IntKind.signed] using wb
    clear wc wa wb
    have h4 := tailF_size s
    have hz : (wrapF s).size = 2 + ((bestF s).size + 4) := by rw [wrap_eq, ByteArray.size_append, ByteArray.size_append, h4]; rfl
    have hbg := best_ge s
    have hbs := bestF_size s (by omega)
    have KW := Aside0.mk (wrap_calls w s (by omega))
    have F1 := unwrap_wrap s (by omega)
    have F2 := unwrap_cut s (by omega)
    have F3 := fun i b h1 h2 h3 h4 => unwrap_turned s (by omega) i b h1 h2 h3 h4
    have F4 := unwrap_big s (by omega)
    obtain ⟨t, ht⟩ : ∃ t, t = wrapF s := ⟨_, rfl⟩
    rw [← ht] at KW F1 F2 F3 F4 hz
    have ht8 : 8 ≤ t.size := by omega
    have htb : t.size ≤ 300000 := by omega
    have q8 : decide ((t.size : Int) < 8) = false := decide_eq_false (by omega)
    have q8n : decide (t.size < 8) = false := decide_eq_false (by omega)
    obtain ⟨c, hc⟩ : ∃ c : Nat, cut % (t.size : Int) = (c : Int) := ⟨(cut % (t.size : Int)).toNat, by have := Int.emod_nonneg cut (show (t.size : Int) ≠ 0 by omega); omega⟩
    have hcl : c < t.size := by have := Int.emod_lt_of_pos cut (show 0 < (t.size : Int) by omega); omega
    obtain ⟨i, hi⟩ : ∃ i : Nat, (t.size : Int) - 1 - at_ % 4 = (i : Int) := ⟨((t.size : Int) - 1 - at_ % 4).toNat, by omega⟩
    have hi1 : t.size - 4 ≤ i := by omega
    have hi2 : i < t.size := by omega
    have hby := bt_byte t (i : Int)
    have K1 := Aside0.mk (fun W => unwrap_calls W t (s.size : Int) (by omega) (by omega))
    rw [F1] at K1
    have hxs : (t.extract 0 c).size ≤ 1000000 := by rw [ByteArray.size_extract]; omega
    have K2 := Aside0.mk (unwrap_is (t.extract 0 c) (s.size : Int) 5 hxs (by omega) (F2 c hcl))
    have hss : (setByte t i (bits .xor .u8 (bt t i) by_)).size ≤ 1000000 := by rw [setByte_size]; omega
    have K3 := Aside0.mk (unwrap_is _ (s.size : Int) _ hss (by omega) (F3 i by_ hi1 hi2 b0.1 (by omega)))
    have K4 : Aside0 (s.size ≠ 0 → ∀ W, _) := ⟨fun h0 W => unwrap_is t ((s.size : Int) - 1) 7 (by omega) (by omega) (by rw [F4 h0]) W⟩
    have hlc : c ≤ t.size := by omega
    have hc0 : (0 : Int) ≤ (c : Int) ∧ (c : Int) ≤ (t.size : Int) := by omega
    clear F1 F2 F3 F4 h4 hz hbg hbs hxs hss ht
    go_enter Try.func4, Try.ntmps4
    go_wp2_with fail
    refine KW.out.mono ?_
    rintro e w1 ⟨rfl, hb1⟩
    have HB1 := Aside0.mk hb1
    clear hb1 KW
    go_wp2_with fail
    refine (K1.out w1).mono ?_
    rintro e w2 ⟨rfl, hb2⟩
    have HB2 := Aside0.mk (HB1.out.trans (hb2.mono HB1.out.size))
    clear hb2 K1 HB1
    go_wp2_with fail
    refine (K2.out w2).mono ?_
    rintro e w3 ⟨x2, rfl, hb3⟩
    have HB3 := Aside0.mk (HB2.out.trans (hb3.mono HB2.out.size))
    clear hb3 K2 HB2
    have kb := print_bytes (P := Try.prog) 9 29 5 Try.underlying9 Try.underlying29 Try.underlying5 t w3
    have hcl2 := bytes_cell w3 5 t i hi2
    have hfr := bytes_free w3 5 t i hi2
    have kt := bytes_back (P := Try.prog) w3 29 9 5 Try.underlying29 Try.underlying5 Try.underlying9 t i hi2 (bits .xor .u8 (bt t i) by_) (grownCap w3 t.size 0 5)
    change (convert _ _ _).run Try.prog _ = .ok (.string (setByte t i (bits .xor .u8 (bt t i) by_))) _ at kt
    have HB5 : Aside0 (Below w.heap.size w ((Lib.bytesWorld w3 5 t).setCell ⟨w3.heap.size, i, none⟩ (.int .u8 (bits .xor .u8 (bt t i) by_)))) := ⟨(bytes_below HB3.out HB3.out.size _ t).setCell (p := ⟨w3.heap.size, i, none⟩) HB3.out.size _⟩
    have KT := Aside0.mk kt
    go_wp2_with fail
    refine (K3.out _).mono ?_
    rintro e w4 ⟨x3, rfl, hb4⟩
    have HB6 := Aside0.mk (HB5.out.trans (hb4.mono HB5.out.size))
    clear kb hcl2 hfr kt HB5 KT hb4 K3
    obtain ⟨g, hg⟩ : ∃ g : Int, g = if by_ = 0 then 0 else 6 := ⟨_, rfl⟩
    rw [← hg]
    have HWR := Aside0.mk (fun W => wrapped_true W)
    by_cases hby0 : by_ = 0
    · rw [if_pos hby0] at hg
      subst hg
      subst hby0
      by_cases hs0 : s.size = 0
      · have hl2 := toList_nil hs0
        go_wp2_with fail
        refine (HWR.out w4).mono ?_
        rintro e w5 ⟨rfl, hb5⟩
        have HB7 := Aside0.mk (HB6.out.trans (hb5.mono HB6.out.size))
        clear hb5
        go_wp2_with fail
        go_returns
        exact ⟨rfl, HB7.out⟩
      · have hl2 := toList_some hs0
        go_wp2_with fail
        refine (K4.out hs0 w4).mono ?_
        rintro e w5 ⟨x4, rfl, hb5⟩
        have HB7 := Aside0.mk (HB6.out.trans (hb5.mono HB6.out.size))
        clear hb5
        go_wp2_with fail
        refine (HWR.out w5).mono ?_
        rintro e w6 ⟨rfl, hb6⟩
        have HB8 := Aside0.mk (HB7.out.trans (hb6.mono HB7.out.size))
        clear hb6
        go_wp2_with fail
        go_returns
        exact ⟨rfl, HB8.out⟩
    · have qb : (by_ != 0) = true := bne_iff_ne.mpr hby0
      rw [if_neg hby0] at hg
      subst hg
      by_cases hs0 : s.size = 0
      · have hl2 := toList_nil hs0
        go_wp2_with fail
        refine (HWR.out w4).mono ?_
        rintro e w5 ⟨rfl, hb5⟩
        have HB7 := Aside0.mk (HB6.out.trans (hb5.mono HB6.out.size))
        clear hb5
        go_wp2_with fail
        go_returns
        exact ⟨rfl, HB7.out⟩
      · have hl2 := toList_some hs0
        go_wp2_with fail
        refine (K4.out hs0 w4).mono ?_
        rintro e w5 ⟨x4, rfl, hb5⟩
        have HB7 := Aside0.mk (HB6.out.trans (hb5.mono HB6.out.size))
        clear hb5
        go_wp2_with fail
        refine (HWR.out w5).mono ?_
        rintro e w6 ⟨rfl, hb6⟩
        have HB8 := Aside0.mk (HB7.out.trans (hb6.mono HB7.out.size))
        clear hb6
        go_wp2_with fail
        go_returns
        exact ⟨rfl, HB8.out⟩
end Go.Proofs.Ytbgdadehjnifeaa.Hand
