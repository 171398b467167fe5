/- Squeeze: the longest piece that stood ahead; walked by hand. -/
import Derived.Test.YtfoicjlkbkjfjaaHand11f
import Derived.WalkMore
namespace Go.Proofs.Ytfoicjlkbkjfjaa.Hand
open Go.RowKit Go.Proofs.YtfoicjlkbkjfjaaW.PrintWords Go.Proofs.YtfoicjlkbkjfjaaW.PrintLast Go.Proofs.YtfoicjlkbkjfjaaW.PrintMore Go.Proofs.Ytfoicjlkbkjfjaa.Num Go.Proofs.Ytfoicjlkbkjfjaa.Bits
set_option linter.unusedVariables false
set_option linter.unusedSimpArgs false
theorem goL_skip (s : ByteArray) (at_ : Nat) (l b : Nat) : ∀ jj, jj ≤ at_ → at_ + 3 ≤ s.size → goL s at_ jj l b = goL s at_ (lastP s jj (key3 s at_) + 1).toNat l b
  | 0, _, _ => rfl
  | d + 1, h1, h2 => by
    rw [lastP]
    by_cases hk : key3 s d = key3 s at_
    · rw [if_pos ⟨by omega, hk⟩, show ((d : Int) + 1).toNat = d + 1 by omega]
    · rw [if_neg (fun h => hk h.2), ← goL_skip s at_ l b d (by omega) h2, goL, if_neg hk]
theorem goL_hit (s : ByteArray) (at_ : Nat) (l b j : Nat) (hk : key3 s j = key3 s at_) : goL s at_ (j + 1) l b = if 32768 < at_ - j then (l, b) else if alk s 258 j at_ ≤ l then goL s at_ j l b else if alk s 258 j at_ = 258 then (alk s 258 j at_, at_ - j) else goL s at_ j (alk s 258 j at_) (at_ - j) := by
  rw [goL, if_pos hk]
theorem lastP_hit (s : ByteArray) (k : Int) : ∀ d, 0 ≤ lastP s d k → (lastP s d k).toNat < d ∧ (lastP s d k).toNat + 3 ≤ s.size ∧ key3 s (lastP s d k).toNat = k
  | 0, h => by rw [lastP] at h; omega
  | d + 1, h => by
    rw [lastP] at h ⊢
    split
    · rename_i hc
      rw [Int.toNat_natCast]
      exact ⟨by omega, hc.1, hc.2⟩
    · rename_i hc
      rw [if_neg hc] at h
      have := lastP_hit s k d h
      exact ⟨by omega, this.2⟩
set_option maxRecDepth 100000 in
set_option maxHeartbeats 4000000 in
theorem ffind_calls (w : World) (B x : Nat) (s : ByteArray) (d at_ : Nat) (h : FindAt w B x s d) (hd : d ≤ at_) (hat : at_ ≤ s.size) (hs : s.size ≤ 100000) (hB : B ≤ w.heap.size) :
    Calls Try.prog 24 #[.pointer (some ⟨x, 0, none⟩), .int .i64 (at_ : Int)] w fun e w' => e = .returned (.tuple #[.int .i64 ((findF s at_).1 : Int), .int .i64 ((findF s at_).2 : Int)]) ∧ FindAt w' B x s at_ ∧ Fr w w' (SF B x w) := by
  have HP := Aside0.mk (fpass_calls w B x s d at_ h hd hat hs hB)
  clear h
  go_enter Try.func24, Try.ntmps24
  go_wp2_with fail
  refine wp_scope_straight ?_
  go_wp2_with fail
  refine HP.out.mono ?_
  rintro e w1 ⟨rfl, h1, hf1⟩
  have HF : Aside0 (_ ∧ _) := ⟨h1, hf1⟩
  clear HP
  obtain ⟨mb, v, l, hb, hr, hl, hnx, hm⟩ := h1.open_
  clear h1 hf1
  obtain ⟨A1, k1, rfl, hrd⟩ := hr.reads
  have c0 : w1.cell? ⟨x, 0, none⟩ = some (.string s) := (blk_cell hb 0).trans (by simp)
  have c1 : w1.cell? ⟨x, 1, none⟩ = some (.map (some mb)) := (blk_cell hb 1).trans (by simp)
  have c2 : w1.cell? ⟨x, 2, none⟩ = some (.slice A1 l.length k1) := (blk_cell hb 2).trans (by simp)
  have HX : Aside0 (_ ∧ _ ∧ _ ∧ _ ∧ _) := ⟨hb, hl, hnx, hm, hrd⟩
  clear hb hr hnx hm hrd
  by_cases h3 : s.size < at_ + 3
  · have q3 : decide ((s.size : Int) < (at_ : Int) + 3) = true := decide_eq_true (by omega)
    have q3n : decide (s.size < at_ + 3) = true := decide_eq_true h3
    go_wp2_with fail
    repeat (rw [Exit.noGoto_ret])
    go_returns
    have e : findF s at_ = (0, 0) := by unfold findF; rw [if_pos h3]
    rw [e]
    exact ⟨rfl, HF.out⟩
  · have q3 : decide ((s.size : Int) < (at_ : Int) + 3) = false := decide_eq_false (by omega)
    have q3n : decide (s.size < at_ + 3) = false := decide_eq_false h3
    have hlr := lastP_lt s at_ (key3 s at_)
    have hlh := lastP_hit s (key3 s at_) at_
    have HS0 := Aside0.mk (goL_skip s at_ 0 0 at_ (Nat.le_refl _) (by omega))
    have HE : Aside0 (findF s at_ = goL s at_ at_ 0 0) := ⟨by unfold findF; rw [if_neg h3]⟩
    have hlk : ∀ n, (Instr.lookup 48 (.map (some mb)) (.int .i64 (key3 s at_)) true).run Try.prog (w1.drewN n) = .ok (.tuple #[.int .i64 (if lastP s at_ (key3 s at_) < 0 then 0 else lastP s at_ (key3 s at_)), .bool (decide (0 ≤ lastP s at_ (key3 s at_)))]) (w1.drewN n) :=
      fun n => (HX.out.2.2.2.1.drawn ⟨⟨n, rfl⟩⟩).look _ (i64_wf _ (by have := key3_range s at_; omega))
    have HK : Aside0 (∀ n, Calls Try.prog 53 #[.pointer (some ⟨x, 0, none⟩), .int .i64 (at_ : Int)] (w1.drewN n) fun e w' => e = .returned (.int .i64 (key3 s at_)) ∧ ∃ m, w' = w1.drewN m) :=
      ⟨fun n => (fkey_calls (w1.drewN n) x s _ _ _ at_ HX.out.1 (by omega) (by omega)).mono (by rintro e w2 ⟨rfl, ⟨⟨m, rfl⟩⟩⟩; exact ⟨rfl, n + m, World.drewN_drewN _ _ _⟩)⟩
    obtain ⟨ky, hky⟩ : ∃ ky, ky = key3 s at_ := ⟨_, rfl⟩
    obtain ⟨J, hJ⟩ : ∃ J, J = lastP s at_ ky := ⟨_, rfl⟩
    rw [← hky] at hlk hlr HK hlh HS0
    rw [← hJ] at hlk hlr hlh HS0
    have HKY : Aside0 (_ ∧ _ ∧ _) := ⟨hky, hJ, hlh⟩
    clear hky hJ hlh
    by_cases hj : J < 0
    · simp only [if_pos hj, decide_eq_false (show ¬ 0 ≤ J by omega)] at hlk
      go_wp2_with fail
      go_quiet (refine HK.out _)
      go_wp2_with fail
      repeat (rw [Exit.noGoto_ret])
      go_returns
      have e : findF s at_ = (0, 0) := by rw [HE.out, HS0.out, show (J + 1).toNat = 0 by omega, goL]
      rw [e]
      exact ⟨rfl, HF.out.1.drawn ⟨⟨nq, rfl⟩⟩, HF.out.2.drewN nq⟩
    · simp only [if_neg hj, decide_eq_true (show 0 ≤ J by omega)] at hlk
      go_wp2_with fail
      go_quiet (refine HK.out _)
      clear hlk HK c1
      have HKK : Aside0 (0 ≤ J → J.toNat + 3 ≤ s.size ∧ key3 s J.toNat = key3 s at_) := ⟨fun h => by
        have := HKY.out.2.2 h
        exact ⟨this.2.1, this.2.2.trans HKY.out.1⟩⟩
      clear HKY
      go_wp2_with fail
      refine wp_label ?_
      go_wp2_with fail
      go_loopw [6, 8, 9] (fun v6 v8 v9 wr => ∃ (J2 : Int) (ln bk : Nat), v6 = .int .i64 J2 ∧ v8 = .int .i64 (ln : Int) ∧ v9 = .int .i64 (bk : Int) ∧ -1 ≤ J2 ∧ J2 < at_ ∧ ln ≤ 258 ∧ Aside0 (goL s at_ at_ 0 0 = goL s at_ (J2 + 1).toNat ln bk ∧ (0 ≤ J2 → J2.toNat + 3 ≤ s.size ∧ key3 s J2.toNat = key3 s at_) ∧ Drawn0 w1 wr)) (fun v6 _ _ _ => (intOf v6 + 1).toNat)
      case atStart => exact ⟨J, 0, 0, rfl, rfl, rfl, hlr.2, hlr.1, by omega, ⟨HS0.out, HKK.out, ⟨⟨nq, rfl⟩⟩⟩⟩
      case round =>
        clear HKK HS0 hlr hj
        obtain ⟨J2, ln, bk, rfl, rfl, rfl, hj1, hj2, hln, HR⟩ := hrel
        obtain ⟨⟨nd, rfl⟩⟩ := HR.out.2.2
        by_cases hjn : 0 ≤ J2
        · obtain ⟨j, rfl⟩ : ∃ j : Nat, J2 = (j : Int) := ⟨J2.toNat, by omega⟩
          have qg : decide (0 ≤ (j : Int)) = true := decide_eq_true hjn
          have hkj := HR.out.2.1 hjn
          rw [Int.toNat_natCast] at hkj
          have hgo := HR.out.1
          rw [show ((j : Int) + 1).toNat = j + 1 by omega, goL_hit s at_ ln bk j hkj.2] at hgo
          by_cases hfar : 32768 < at_ - j
          · have qf : decide ((at_ : Int) - (j : Int) ≤ 32768) = false := decide_eq_false (by omega)
            rw [if_pos hfar] at hgo
            have HG := Aside0.mk hgo
            clear hgo hkj HR
            go_wp2_with fail
            repeat (rw [Exit.noGoto_ret])
            go_returns
            rw [HE.out, HG.out]
            exact ⟨rfl, HF.out.1.drawn ⟨⟨_, rfl⟩⟩, HF.out.2.drewN _⟩
          · have qf : decide ((at_ : Int) - (j : Int) ≤ 32768) = true := decide_eq_true (by omega)
            rw [if_neg hfar] at hgo
            have HA := Aside0.mk (falike_calls (w1.drewN nd) x s _ _ _ j at_ HX.out.1 (by omega) hat (by omega))
            obtain ⟨n, hn⟩ : ∃ n, n = alk s 258 j at_ := ⟨_, rfl⟩
            have hn258 : n ≤ 258 := by rw [hn]; exact alk_le _ _ _ _
            rw [← hn] at hgo HA
            have hnx : l.getD j 0 = lastP s j (key3 s at_) := by rw [HX.out.2.2.1 j (by omega)]; unfold nxt; rw [if_pos hkj.1, hkj.2]
            have hlt := lastP_lt s j (key3 s at_)
            have hhit := lastP_hit s (key3 s at_) j
            have HSK := fun l2 b2 => goL_skip s at_ l2 b2 j (by omega) (by omega)
            have hcell : ∃ ad, A1 = some ad ∧ w1.cell? (ad.add j) = some (.int .i64 (l.getD j 0)) := by
              obtain ⟨ad, had, hc⟩ := ReadsInt.at_ HX.out.2.2.2.2 (j : Int) (by omega) (by omega)
              rw [Int.toNat_natCast, rd, Int.toNat_natCast] at hc
              exact ⟨ad, had, hc⟩
            obtain ⟨ad, rfl, hcell⟩ := hcell
            rw [hnx] at hcell
            clear hnx hkj
            obtain ⟨J3, hJ3⟩ : ∃ J3, J3 = lastP s j (key3 s at_) := ⟨_, rfl⟩
            rw [← hJ3] at hcell hlt hhit HSK
            clear hJ3
            have HG : Aside0 (_ ∧ _ ∧ _) := ⟨hgo, hhit, HSK⟩
            have hjl : j < l.length := by omega
            clear hgo hhit HSK HR hn
            go_wp2_with fail
            refine HA.out.mono ?_
            rintro e w2 ⟨rfl, ⟨⟨n2, rfl⟩⟩⟩
            clear HA
            rw [World.drewN_drewN]
            generalize nd + n2 = N
            by_cases hle : n ≤ ln
            · have qn : decide ((n : Int) ≤ (ln : Int)) = true := decide_eq_true (by omega)
              have qnn : decide (n ≤ ln) = true := decide_eq_true hle
              have HG2 : Aside0 (_ ∧ _) := ⟨by have := HG.out.1; rw [if_pos hle, HG.out.2.2] at this; exact this, fun h => (HG.out.2.1 h).2⟩
              clear HG
              go_wp2_with fail
              go_roundw
              case rel => exact ⟨J3, ln, bk, rfl, rfl, rfl, hlt.2, by omega, hln, ⟨HG2.out.1, HG2.out.2, ⟨⟨N, rfl⟩⟩⟩⟩
              case measure => simp [intOf]; omega
            · have qn : decide ((n : Int) ≤ (ln : Int)) = false := decide_eq_false (by omega)
              have qnn : decide (n ≤ ln) = false := decide_eq_false hle
              have ecast : ((at_ - j : Nat) : Int) = (at_ : Int) - (j : Int) := by omega
              by_cases h258 : n = 258
              · have qb : ((n : Int) == 258) = true := by rw [beq_iff_eq]; omega
                have HG2 : Aside0 (_) := ⟨by have := HG.out.1; rw [if_neg hle, if_pos h258] at this; exact this⟩
                clear HG
                go_wp2_with fail
                repeat (rw [Exit.noGoto_ret])
                go_returns
                subst h258
                rw [HE.out, HG2.out, ecast]
                exact ⟨rfl, HF.out.1.drawn ⟨⟨_, rfl⟩⟩, HF.out.2.drewN _⟩
              · have qb : ((n : Int) == 258) = false := by rw [beq_eq_false_iff_ne]; omega
                have HG2 : Aside0 (_ ∧ _) := ⟨by have := HG.out.1; rw [if_neg hle, if_neg h258, HG.out.2.2] at this; exact this, fun h => (HG.out.2.1 h).2⟩
                clear HG
                go_wp2_with fail
                go_roundw
                case rel => exact ⟨J3, n, at_ - j, rfl, rfl, by rw [ecast], hlt.2, by omega, hn258, ⟨HG2.out.1, HG2.out.2, ⟨⟨N, rfl⟩⟩⟩⟩
                case measure => simp [intOf]; omega
        · have qg : decide (0 ≤ J2) = false := decide_eq_false hjn
          have hgo := HR.out.1
          rw [show (J2 + 1).toNat = 0 by omega, goL] at hgo
          have HG := Aside0.mk hgo
          clear hgo HR
          go_wp2_with fail
          repeat (rw [Exit.noGoto_ret])
          go_returns
          rw [HE.out, HG.out]
          exact ⟨rfl, HF.out.1.drawn ⟨⟨_, rfl⟩⟩, HF.out.2.drewN _⟩
end Go.Proofs.Ytfoicjlkbkjfjaa.Hand
