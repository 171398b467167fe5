/- The scanner of layer 15: text; walked by hand. -/
import Derived.Test.YtkmmmlbppobifaaHand15x
namespace Go.Proofs.Ytkmmmlbppobifaa.Hand
open Go.RowKit Go.Proofs.YtkmmmlbppobifaaW.PrintWords Go.Proofs.YtkmmmlbppobifaaW.PrintLast Go.Proofs.YtkmmmlbppobifaaW.PrintMore Go.Proofs.Ytkmmmlbppobifaa.Num Go.Proofs.Ytkmmmlbppobifaa.P01a
set_option linter.unusedVariables false
set_option linter.unusedSimpArgs false
def textF (s : ByteArray) : Nat → Nat → Nat → List Int → Int × List Int × Nat
  | 0, _, _, _ => (99, [], 0)
  | k + 1, p, d, o => if p < s.size then
      (if 0 < endsN s p then textF s k (p + endsN s p) d (o ++ [10])
       else if bt s (p : Int) = 92 then (match escapeF s (p + 1) with
          | none => (5, [], 0)
          | some (xs, q) => textF s k q d (o ++ xs))
       else if bt s (p : Int) = 40 then textF s k (p + 1) (d + 1) (o ++ [40])
       else if bt s (p : Int) = 41 then (if d = 1 then (0, o, p + 1) else textF s k (p + 1) (d - 1) (o ++ [41]))
       else textF s k (p + 1) d (o ++ [bt s (p : Int)]))
    else (5, [], 0)
theorem escapeF_range {s : ByteArray} {p q : Nat} {xs : List Int} (hp : p ≤ s.size) (h : escapeF s p = some (xs, q)) : p + 1 ≤ q ∧ q ≤ s.size ∧ xs.length ≤ 1 := by
  unfold escapeF at h
  split at h
  · rename_i hlt
    split at h
    · rename_i hn
      injection h with h
      injection h with h1 h2
      subst h1 h2
      have := endsN_le s p hp
      exact ⟨by omega, by omega, by decide⟩
    · split at h
      · rename_i hc
        injection h with h
        injection h with h1 h2
        subst h1 h2
        have h3 := octF_ge s 2 (p + 1) (8 * 0 + (bt s (p : Int) - 48)) (by omega)
        have h4 : octF s 3 p 0 = octF s 2 (p + 1) (8 * 0 + (bt s (p : Int) - 48)) := by rw [octF, if_pos ⟨hlt, hc⟩]
        rw [h4]
        exact ⟨h3.1, h3.2, by simp⟩
      · injection h with h
        injection h with h1 h2
        subst h1 h2
        exact ⟨Nat.le_refl _, by omega, by simp⟩
  · cases h
set_option maxRecDepth 100000 in
set_option maxHeartbeats 8000000 in
theorem text_calls (w : World) (B g : Nat) (s : ByteArray) (p K : Nat) (h : ScAt w B g s p []) (hs : s.size ≤ 60000) (hp : p < s.size) (hB : B ≤ w.heap.size) (hK : s.size < p + 1 + K) :
    Calls Try.prog 29 #[.pointer (some ⟨g, 0, none⟩)] w (TkPost B g s w (tokOf 3 (textF s K (p + 1) 1 []))) := by
  have HT := Aside0.mk (Tz.new h)
  obtain ⟨z, hz⟩ : ∃ z, z = w.heap.size := ⟨_, rfl⟩
  obtain ⟨p1, hp1⟩ : ∃ q, q = p + 1 := ⟨_, rfl⟩
  rw [← hp1] at hK ⊢
  have e1 : (p : Int) + 1 = (p1 : Int) := by omega
  obtain ⟨res, hres⟩ : ∃ res, res = textF s K p1 1 [] := ⟨_, rfl⟩
  rw [← hres]
  have HRES := Aside0.mk hres
  have hp1s : p1 ≤ s.size := by omega
  clear h hres hp1
  go_enter Try.func29, Try.ntmps29
  go_wp2_with fail
  refine wp_scope_straight ?_
  go_upto_region 1 with fail
  rw [← hz] at HT ⊢
  clear hz
  generalize World.alloc w _ = W0 at HT ⊢
  obtain ⟨A, n, c, hn, hb, hr, c0, c1, c2, f1, f2⟩ := HT.out.sc.cells
  have HM := Aside0.mk (HT.out.move p1)
  clear hn hb hr c0 c2 f2
  go_upto_region 2 with fail
  generalize World.setCell W0 _ _ = W1 at HM ⊢
  clear HT c1 f1 e1
  go_wp2_with fail
  refine wp_label ?_
  go_wp2_with fail
  go_loopg [4] K (fun kq v4 wr => ∃ (q d : Nat) (o : List Int), v4 = .int .i64 (d : Int) ∧ 1 ≤ d ∧ d ≤ q + 1 ∧ o.length ≤ q ∧ q ≤ s.size ∧ s.size < q + kq ∧ Aside0 (Tz w wr B g z s q o) ∧ Aside0 (res = textF s kq q d o))
  case atStart => exact ⟨p1, 1, [], rfl, by decide, by omega, Nat.zero_le _, hp1s, hK, HM, HRES⟩
  case round =>
    clear HRES HM
    obtain ⟨q, d, o, rfl, hd1, hdq, hol, hq, hk, HS, HR⟩ := hrel
    cases gk with
    | zero => exact absurd hk (by omega)
    | succ k1 =>
      obtain ⟨A, na, ca, hna, hb, hr, c0, c1, c2, f1, f2⟩ := HS.out.sc.cells
      have hrec := HR.out
      rw [textF] at hrec
      clear hna hb hr
      by_cases hlt : q < s.size
      · rw [if_pos hlt] at hrec
        have q1 : decide ((q : Int) < (s.size : Int)) = true := decide_eq_true (by omega)
        have q1n : decide (q < s.size) = true := decide_eq_true hlt
        have hx := nat_bt s q hlt
        have hcr := bt_range s (q : Int)
        obtain ⟨nI, hnI⟩ : ∃ nI : Int, nI = (endsN s q : Int) := ⟨_, rfl⟩
        have KE := Aside0.mk (fun W => ends_calls s q (by omega) hq W)
        rw [← hnI] at KE
        have hn2 := ends_le2 s q
        have hnl := endsN_le s q hq
        generalize endsN s q = n at hnI hn2 hnl hrec
        generalize bt s (q : Int) = c at hx hcr hrec
        have p1' : (0 : Int) ≤ (q : Int) := by omega
        have p2' : (q : Int) < (s.size : Int) := by omega
        have HREC := Aside0.mk hrec
        clear hrec HR
        go_upto_region 6 with (first | (go_quiet (first | (go_at_call 25; (with_reducible refine (KE.out _).mono ?_); rintro e w' ⟨rfl, ⟨nd, rfl⟩⟩; (try first | exact ⟨rfl, _, World.drewN_drewN _ _ _⟩ | exact ⟨rfl, _, Eq.trans (World.drewN_drewN _ _ _) (congrArg (World.drewN _) (Nat.add_assoc _ _ _))⟩)))))
        clear KE hx p1' p2' c0 c2 f2 q1 q1n
        obtain ⟨q2, hq2⟩ : ∃ q2, q2 = q + max 1 n := ⟨_, rfl⟩
        have hq2s : q2 ≤ s.size ∧ q + 1 ≤ q2 := by omega
        have HQ2 : Aside0 ((0 < n → q2 = q + n) ∧ (n = 0 → q2 = q + 1)) := ⟨by omega⟩
        have HNI := Aside0.mk hnI
        clear hq2 hnI
        go_cut [] (fun wc => Aside0 (Tz w wc B g z s q2 o))
        case first =>
          have h3 : (nI = 0 ∧ (q : Int) + 1 = (q2 : Int)) ∨ (nI = 1 ∧ (q : Int) + 1 = (q2 : Int)) ∨ (nI = 2 ∧ (q : Int) + 2 = (q2 : Int)) := by
            have a1 := HNI.out
            have a2 := HQ2.out
            omega
          clear HNI hn2 hnl
          rcases h3 with ⟨rfl, e2⟩ | ⟨rfl, e2⟩ | ⟨rfl, e2⟩
          all_goals
            go_wp2_with fail
            go_meet
            exact ⟨(HS.out.drawn ⟨_, rfl⟩).move q2⟩
        case rest =>
        have HM := hcut
        have hnI := HNI.out
        clear hcut HS c1 f1
        go_upto_block 2 with fail
        have HMS := HM.out.fr.size
        clear A na ca
        go_cut [4, 5] (fun v4 v5 wc => ∃ (d' : Nat) (y : Int), v4 = .int .i64 (d' : Int) ∧ v5 = .int .u8 y ∧ 0 ≤ y ∧ y ≤ 255 ∧ d' ≤ q2 + 1 ∧ Aside0 (Tz w wc B g z s q2 o) ∧ Aside0 (res = if d' = 0 then (0, o, q2) else textF s k1 q2 d' (o ++ [y])))
        case first =>
          by_cases hn0 : 0 < n
          · have s1 : decide (0 < nI) = true := decide_eq_true (by omega)
            have hrec := HREC.out
            rw [if_pos hn0, ← HQ2.out.1 hn0] at hrec
            have HRE2 : Aside0 (res = if d = 0 then (0, o, q2) else textF s k1 q2 d (o ++ [10])) := ⟨by rw [if_neg (by omega)]; exact hrec⟩
            clear hrec HREC hnI
            go_wp2_with fail
            go_meet
            exact ⟨d, 10, rfl, rfl, by decide, by decide, by omega, HM, HRE2⟩
          · have s1 : decide (0 < nI) = false := decide_eq_false (by omega)
            have hq21 : q2 = q + 1 := HQ2.out.2 (by omega)
            have hrec := HREC.out
            rw [if_neg hn0, ← hq21] at hrec
            have HREC2 := Aside0.mk hrec
            have HQ21 := Aside0.mk hq21
            clear hrec HREC hnI hq21
            by_cases h92 : c = 92
            · have t92 : (c == 92) = true := beq_iff_eq.2 h92
              have hrec := HREC2.out
              rw [if_pos h92] at hrec
              have KS := escape_calls _ B g s q2 o HM.out.sc hs hq2s.1 (by omega) (by omega)
              unfold EsPost at KS
              cases he : escapeF s q2 with
              | none =>
                rw [he] at hrec KS
                subst hrec
                have HKS := Aside0.mk KS
                clear KS he HREC2 h92
                go_wp2_with fail
                refine HKS.out.mono ?_
                rintro e W5 ⟨rfl, ⟨q5, o5, hs5⟩, hf5⟩
                have HT5 := Aside0.mk (HM.out.step hs5 hf5)
                clear hs5 hf5 HKS HM
                go_wp2_with fail
                refine (bad_calls 5 _).mono ?_
                rintro e W6 ⟨rfl, hb6⟩
                have HT6 := Aside0.mk (HT5.out.below hb6)
                have zb := HT6.out.zb
                have HP := HT6.out.put (tokC 0 0 ⟨#[]⟩ 0 0)
                clear hb6
                go_wp2_with (refine wpList_store_rowTo rfl 24 _ _ rfl rfl z (tokC 0 0 ⟨#[]⟩ 0 0) rfl rfl 24 _ zb tokInfo rfl (tok_one _ _ _ _ _) ?_)
                repeat (rw [Exit.noGoto_ret])
                exact bodyPost_ret (results_ct rfl _ _ z 24 (tokC 0 0 ⟨#[]⟩ 0 0) (0, 0) _ rfl HP.1 Try.underlying24 rfl tokInfo) rfl (TkPost.mk_ rfl HP.2.1 (fun h => absurd h (by decide)) HP.2.2)
              | some r =>
                obtain ⟨xs, q3⟩ := r
                rw [he] at hrec KS
                have hxr := escapeF_range hq2s.1 he
                have HKS := Aside0.mk KS
                have HRE3 := Aside0.mk hrec
                clear KS he HREC2 h92 hrec
                go_wp2_with fail
                refine HKS.out.mono ?_
                rintro e W5 ⟨rfl, hs5, hf5⟩
                have HT5 := Aside0.mk (HM.out.step hs5 hf5)
                obtain ⟨A, na, ca, hna, hb, hr, c0, c1, c2, f1, f2⟩ := HT5.out.sc.cells
                have hxl : na ≤ o.length + 1 := by rw [hna.out, List.length_append]; omega
                have s6 : decide ((65535 : Int) < (na : Int)) = false := decide_eq_false (by omega)
                have s6n : decide (65535 < na) = false := decide_eq_false (by omega)
                have hol2 : (o ++ xs).length ≤ q3 := by rw [List.length_append]; have := HQ21.out; omega
                have hk3 : s.size < q3 + k1 := by have := HQ21.out; omega
                have hd3 : d ≤ q3 + 1 := by omega
                clear hs5 hf5 HKS HM hna hb hr hxl
                go_wp2_with fail
                go_roundg k1
                case measure => omega
                case rel => exact ⟨q3, d, o ++ xs, rfl, hd1, hd3, hol2, hxr.2.1, hk3, HT5, HRE3⟩
            · have t92 : (c == 92) = false := beq_false_of_ne h92
              by_cases h40 : c = 40
              · have t40 : (c == 40) = true := beq_iff_eq.2 h40
                have hrec := HREC2.out
                rw [if_neg h92, if_pos h40] at hrec
                have HRE3 : Aside0 (res = if d + 1 = 0 then (0, o, q2) else textF s k1 q2 (d + 1) (o ++ [c])) := ⟨by rw [if_neg (by omega), h40]; exact hrec⟩
                obtain ⟨d2, hd2⟩ : ∃ d2, d2 = d + 1 := ⟨_, rfl⟩
                have e3 : (d : Int) + 1 = (d2 : Int) := by omega
                rw [← hd2] at HRE3
                have HD2 := Aside0.mk hd2
                have hd2l : d2 ≤ q2 + 1 := by omega
                clear hrec HREC2 h92 h40 hd2
                go_wp2_with fail
                go_meet
                exact ⟨d2, c, rfl, rfl, hcr.1, hcr.2, hd2l, HM, HRE3⟩
              · have t40 : (c == 40) = false := beq_false_of_ne h40
                by_cases h41 : c = 41
                · have t41 : (c == 41) = true := beq_iff_eq.2 h41
                  have hrec := HREC2.out
                  rw [if_neg h92, if_neg h40, if_pos h41] at hrec
                  obtain ⟨d2, hd2⟩ : ∃ d2, d = d2 + 1 := ⟨d - 1, by omega⟩
                  have e3 : (d : Int) - 1 = (d2 : Int) := by omega
                  have HRE3 : Aside0 (res = if d2 = 0 then (0, o, q2) else textF s k1 q2 d2 (o ++ [c])) := ⟨by
                    rw [hrec, h41]
                    by_cases h0 : d2 = 0
                    · rw [if_pos h0, if_pos (by omega)]
                    · rw [if_neg h0, if_neg (by omega), show d - 1 = d2 by omega]⟩
                  have HD2 := Aside0.mk hd2
                  have hd2l : d2 ≤ q2 + 1 := by omega
                  clear hrec HREC2 h92 h40 h41 hd2
                  go_wp2_with fail
                  go_meet
                  exact ⟨d2, c, rfl, rfl, hcr.1, hcr.2, hd2l, HM, HRE3⟩
                · have t41 : (c == 41) = false := beq_false_of_ne h41
                  have hrec := HREC2.out
                  rw [if_neg h92, if_neg h40, if_neg h41] at hrec
                  have HRE3 : Aside0 (res = if d = 0 then (0, o, q2) else textF s k1 q2 d (o ++ [c])) := ⟨by rw [if_neg (by omega)]; exact hrec⟩
                  have hd2l : d ≤ q2 + 1 := by omega
                  clear hrec HREC2 h92 h40 h41
                  go_wp2_with fail
                  go_meet
                  exact ⟨d, c, rfl, rfl, hcr.1, hcr.2, hd2l, HM, HRE3⟩
        case rest =>
          obtain ⟨d', y, rfl, rfl, hy0, hy1, hdl, HT2, HR2⟩ := hcut
          clear HM HREC HMS hnI
          by_cases hd0 : d' = 0
          · subst hd0
            have hrec := HR2.out
            rw [if_pos rfl] at hrec
            subst hrec
            have s7 : (((0 : Nat) : Int) == 0) = true := rfl
            go_wp2_with fail
            refine (told_calls _ B g s q2 o 3 HT2.out.sc (by decide)).mono ?_
            rintro e W7 ⟨rfl, ⟨q6, o6, hs6, hq6⟩, hf6⟩
            have HT7 := Aside0.mk (HT2.out.step hs6 hf6)
            obtain rfl := hq6 rfl
            have zb := HT7.out.zb
            obtain ⟨st, hst⟩ : ∃ st, st = strOfNums o := ⟨_, rfl⟩
            have HST := Aside0.mk hst
            dsimp only
            rw [← hst]
            have HP := HT7.out.put (tokC 3 0 st 0 0)
            clear hs6 hf6 hst hq6
            go_wp2_with (refine wpList_store_rowTo rfl 24 _ _ rfl rfl z (tokC 3 0 st 0 0) rfl rfl 24 _ zb tokInfo rfl (tok_one _ _ _ _ _) ?_)
            repeat (rw [Exit.noGoto_ret])
            exact bodyPost_ret (results_ct rfl _ _ z 24 (tokC 3 0 st 0 0) (0, 0) _ rfl HP.1 Try.underlying24 rfl tokInfo) rfl (TkPost.mk_ (by rw [tokOf_ok, HST.out]; rfl) HP.2.1 (fun h => by rw [tokOf_ok]) HP.2.2)
          · have s7 : ((d' : Int) == 0) = false := beq_false_of_ne (by omega)
            have s7n : (d' == 0) = false := beq_false_of_ne hd0
            have hrec := HR2.out
            rw [if_neg hd0] at hrec
            have HR3 := Aside0.mk hrec
            clear hrec HR2
            obtain ⟨A, n', ca, hn', hb, hr, c0, c1, c2, f1, f2⟩ := HT2.out.sc.cells
            have HBR : Aside0 (_ ∧ _) := ⟨hb, hr⟩
            have hl1 : o.length + 1 ≤ maxLen := by unfold maxLen; omega
            have hl2 : (o.length + 1) * 1 ≤ 140737488355328 := by omega
            have hBx : B ≤ (wc.alloc (.cells #[.int .u8 y] 5)).heap.size := by have := HT2.out.fr.size; simp; omega
            clear hn' hb hr c0 c1 f1
            go_upto_region 20 with (at_builtin; refine app_wp B rfl _ _ 45 5 .u8 1 rfl Try.underlying45 infoU8 (.slice A n' ca) o [y] rfl ⟨wc.heap.size, 0, none⟩ 1 1 rfl rfl (news_lit wc .u8 [y] _ _ (by rfl)) (HBR.out.2.alloc _) hBx hl1 hl2 ?_; intro v8 w8 hap; obtain ⟨A8, n8, k8, hv8, hn8⟩ := hap.row.shape; subst hv8; have hb8 := hap.blk (HBR.out.2.alloc _) (blk_alloc HBR.out.1 _) (by decide); have f8 := blk_frozen hb8 2; have d8 : w8.cell? ⟨g, 2, none⟩ = some (.slice A n' ca) := blk_cell hb8 2)
            have hx := ScAt.app (blk_alloc HBR.out.1 _) (HBR.out.2.alloc _) hap
            have HT3 := Aside0.mk ((HT2.out.below (below_alloc (Below.refl _ _) _)).step hx.1 hx.2)
            clear hap hb8 f8 d8 hx HT2 HBR c2 f2 hBx hl1 hl2 hn8
            generalize World.setCell w8 _ _ = W9 at HT3 ⊢
            obtain ⟨A9, n9, k9, hn9, hb9, hr9, d0, d1, d2, g1, g2⟩ := HT3.out.sc.cells
            have hn9' : n9 = o.length + 1 := by rw [hn9.out, List.length_append]; rfl
            have s8 : decide ((65535 : Int) < (n9 : Int)) = false := decide_eq_false (by omega)
            have s8n : decide (65535 < n9) = false := decide_eq_false (by omega)
            have hol2 : (o ++ [y]).length ≤ q2 := by rw [List.length_append]; show o.length + 1 ≤ q2; omega
            clear hn9 hb9 hr9 d0 d1 g1 g2 hn9'
            go_wp2_with fail
            go_roundg k1
            case measure => omega
            case rel => exact ⟨q2, d', o ++ [y], rfl, by omega, hdl, hol2, hq2s.1, by omega, HT3, HR3⟩
      · rw [if_neg hlt] at hrec
        subst hrec
        have q1 : decide ((q : Int) < (s.size : Int)) = false := decide_eq_false (by omega)
        have q1n : decide (q < s.size) = false := decide_eq_false hlt
        go_wp2_with fail
        go_quiet (fail)
        generalize hW5 : World.drewN wr _ = W5
        have HS5 := Aside0.mk (HS.out.drawn (W1 := W5) ⟨_, hW5.symm⟩)
        clear hW5 HS
        go_wp2_with fail
        refine (bad_calls 5 _).mono ?_
        rintro e W6 ⟨rfl, hb6⟩
        have HT6 := Aside0.mk (HS5.out.below hb6)
        have zb := HT6.out.zb
        have HP := HT6.out.put (tokC 0 0 ⟨#[]⟩ 0 0)
        clear hb6
        go_wp2_with (refine wpList_store_rowTo rfl 24 _ _ rfl rfl z (tokC 0 0 ⟨#[]⟩ 0 0) rfl rfl 24 _ zb tokInfo rfl (tok_one _ _ _ _ _) ?_)
        repeat (rw [Exit.noGoto_ret])
        exact bodyPost_ret (results_ct rfl _ _ z 24 (tokC 0 0 ⟨#[]⟩ 0 0) (0, 0) _ rfl HP.1 Try.underlying24 rfl tokInfo) rfl (TkPost.mk_ rfl HP.2.1 (fun h => absurd h (by decide)) HP.2.2)
end Go.Proofs.Ytkmmmlbppobifaa.Hand
