/- The scanner of layer 15: escape; walked by hand. -/
import Derived.Test.YtkmmmlbppobifaaHand15n
namespace Go.Proofs.Ytkmmmlbppobifaa.Hand
open Go.RowKit Go.Proofs.YtkmmmlbppobifaaW.PrintWords Go.Proofs.YtkmmmlbppobifaaW.PrintLast Go.Proofs.YtkmmmlbppobifaaW.PrintMore Go.Proofs.Ytkmmmlbppobifaa.Num Go.Proofs.Ytkmmmlbppobifaa.P01a
set_option linter.unusedVariables false
set_option linter.unusedSimpArgs false
def mapE (c : Int) : Int := if c = 110 then 10 else if c = 114 then 13 else if c = 116 then 9 else if c = 98 then 8 else if c = 102 then 12 else c
def escapeF (s : ByteArray) (p : Nat) : Option (List Int × Nat) :=
 if p < s.size then (if 0 < endsN s p then some ([], p + endsN s p) else if 48 ≤ bt s (p : Int) ∧ bt s (p : Int) ≤ 55 then some ([(octF s 3 p 0).2 % 256], (octF s 3 p 0).1) else some ([mapE (bt s (p : Int))], p + 1)) else none
def EsPost (B g : Nat) (s : ByteArray) (p : Nat) (o : List Int) (w : World) (e : Ending) (w' : World) : Prop :=
 match escapeF s p with
 | some (xs, q) => e = .returned (.bool true) ∧ ScAt w' B g s q (o ++ xs) ∧ Fr w w' (SC B g w)
 | none => e = .returned (.bool false) ∧ (∃ q o', ScAt w' B g s q o') ∧ Fr w w' (SC B g w)
theorem octF_ge (s : ByteArray) : ∀ (k p : Nat) (n : Int), p ≤ s.size → p ≤ (octF s k p n).1 ∧ (octF s k p n).1 ≤ s.size
 | 0, p, n, h => ⟨Nat.le_refl _, h⟩
 | k + 1, p, n, h => by
  rw [octF]
  split
  ·rename_i hc
   have := octF_ge s k (p + 1) (8 * n + (bt s (p : Int) - 48)) (by omega)
   exact ⟨by omega, this.2⟩
  ·exact ⟨Nat.le_refl _, h⟩
theorem Fr.scD {w w1 w2 : World} {B g : Nat} (h : Fr w w1 (SC B g w)) (hd : Drawn0 w1 w2) : Fr w w2 (SC B g w) := h.then_ (Fr.of_drawn hd _)
theorem ends_le2 (s : ByteArray) (p : Nat) : endsN s p ≤ 2 := by unfold endsN; split; split; omega; split; split <;> omega; omega; omega
set_option maxRecDepth 100000 in
set_option maxHeartbeats 4000000 in
theorem escape_calls (w : World) (B g : Nat) (s : ByteArray) (p : Nat) (o : List Int) (h : ScAt w B g s p o) (hs : s.size ≤ 60000) (hp : p ≤ s.size) (hol : o.length ≤ 60000) (hB : B ≤ w.heap.size) :
  Calls Try.prog 44 #[.pointer (some ⟨g, 0, none⟩)] w (EsPost B g s p o w) := by
 have H := Aside0.mk h
 have KM := Aside0.mk (more_any w B g s p o h (by omega))
 clear h
 by_cases hlt : p < s.size
 ·obtain ⟨n, hn⟩ : ∃ n, n = endsN s p := ⟨_, rfl⟩
  have KE := Aside0.mk (fun W => ends_calls s p (by omega) hp W)
  have hnl := endsN_le s p hp
  have hcr := bt_range s (p : Int)
  obtain ⟨c, hc⟩ : ∃ c, c = bt s (p : Int) := ⟨_, rfl⟩
  have he : escapeF s p = if 0 < n then some ([], p + n) else if 48 ≤ c ∧ c ≤ 55 then some ([(octF s 3 p 0).2 % 256], (octF s 3 p 0).1) else some ([mapE c], p + 1) := by
   unfold escapeF; rw [if_pos hlt, ← hn, ← hc]
  rw [← hn] at KE hnl
  rw [← hc] at hcr
  have HE := Aside0.mk he
  have HC := Aside0.mk hc
  have HPL := Aside0.mk hlt
  have hn2 := ends_le2 s p
  rw [← hn] at hn2
  clear he hn hc hlt
  go_enter Try.func44, Try.ntmps44
  go_wp2_with fail
  refine KM.out.mono ?_
  rintro e W1 ⟨c', b', rfl, HCB, hd1⟩
  have hcb := HCB.out
  rw [if_pos HPL.out, ← HC.out, decide_eq_true HPL.out] at hcb
  obtain ⟨hcc, rfl⟩ := hcb
  obtain rfl : c = c' := hcc.symm
  have HS1 := Aside0.mk (H.out.drawn hd1)
  have HF1 : Aside0 (Fr w W1 (SC B g w)) := ⟨Fr.of_drawn hd1 _⟩
  obtain ⟨A, na, ca, hna, hb, hr, c0, c1, c2, f1, f2⟩ := HS1.out.cells
  have HBR : Aside0 (_ ∧ _ ∧ na = o.length) := ⟨hb, hr, hna.out⟩
  clear hd1 KM HCB hb hr hna
  go_wp2_with fail
  go_quiet (first | (go_at_call 25; (with_reducible refine (KE.out _).mono ?_); rintro e w' ⟨rfl, ⟨nd, rfl⟩⟩; (try first | exact ⟨rfl, _, World.drewN_drewN _ _ _⟩ | exact ⟨rfl, _, Eq.trans (World.drewN_drewN _ _ _) (congrArg (World.drewN _) (Nat.add_assoc _ _ _))⟩)))
  have HS2 := Aside0.mk (HS1.out.drawn (w1 := W1.drewN nq) ⟨_, rfl⟩)
  have HF2 := Aside0.mk (HF1.out.scD (w2 := W1.drewN nq) ⟨_, rfl⟩)
  clear KE
  by_cases hn0 : 0 < n
  ·have s1 : decide (0 < (n : Int)) = true := decide_eq_true (by omega)
   have s1n : decide (0 < n) = true := decide_eq_true hn0
   obtain ⟨q, hq⟩ : ∃ q, q = p + n := ⟨_, rfl⟩
   have e1 : (p : Int) + (n : Int) = (q : Int) := by omega
   have HQ := Aside0.mk hq
   have HM := Aside0.mk (HS2.out.move q)
   have he := HE.out
   rw [if_pos hn0, ← hq] at he
   have HE2 := Aside0.mk he
   clear hq he HE
   go_wp2_with fail
   go_returns
   unfold EsPost
   rw [HE2.out]
   exact ⟨rfl, by rw [List.append_nil]; exact HM.out.1, HF2.out.scG HM.out.2⟩
  ·obtain rfl : n = 0 := by omega
   have s1 : decide ((0 : Int) < 0) = false := rfl
   by_cases hoct : 48 ≤ c ∧ c ≤ 55
   ·obtain ⟨h48, h55⟩ := hoct
    have s2 : decide (48 ≤ c) = true := decide_eq_true h48
    ·have s3 : decide (c ≤ 55) = true := decide_eq_true h55
     have he := HE.out
     rw [if_neg (by decide), if_pos ⟨h48, h55⟩] at he
     skip
     have KO := octal_calls (W1.drewN (nq + 1)) B g s p A na ca o (ScV.drawn (w := W1) ⟨HBR.out.1, HBR.out.2.1⟩ ⟨_, rfl⟩) (by omega) hp
     obtain ⟨⟨q, y⟩, hoc⟩ : ∃ r, r = octF s 3 p 0 := ⟨_, rfl⟩
     rw [← hoc] at KO he
     dsimp only at KO he
     obtain ⟨x, hx⟩ : ∃ x, x = y % 256 := ⟨_, rfl⟩
     rw [← hx] at KO he
     have hx0 : 0 ≤ x ∧ x < 256 := by omega
     have HKO := Aside0.mk KO
     have HE2 := Aside0.mk he
     clear KO he HE hx hoc
     have hBr : B ≤ W1.heap.size := by have := HF1.out.size; omega
     go_wp2_with fail
     go_region_law ((first | (go_simp; go_at_call 49; (with_reducible refine HKO.out.mono ?_); rintro e w2 ⟨rfl, hs2, hf2⟩; have hr2 := hs2.row; have hb2 := hs2.blk; have hBr2 : B ≤ w2.heap.size := Nat.le_trans hBr hf2.of_drewN.size; have d2 : w2.cell? ⟨g, 2, none⟩ = some (.slice A na ca) := blk_cell hb2 2; have d5 : ∀ o, (w2.alloc o).cell? ⟨g, 2, none⟩ = some (.slice A na ca) := fun o => blk_cell (blk_alloc hb2 o) 2) | (refine app_step B rfl _ _ 45 5 .u8 1 rfl Try.underlying45 infoU8 (.slice A na ca) o [x] (by rfl) ⟨w2.heap.size, 0, none⟩ 1 1 (by rfl) rfl (news_lit w2 .u8 [x] _ _ (by rfl)) (hr2.alloc _) (by simp; omega) (by unfold maxLen; omega) (by omega) ?_; intro v8 w8 hap; obtain ⟨A8, n8, k8, hv8, hn8⟩ := hap.row.shape; subst hv8; have hb8 := hap.blk (hr2.alloc _) (blk_alloc hb2 _) (by decide); have f8 := blk_frozen hb8 2; have d8 : w8.cell? ⟨g, 2, none⟩ = some (.slice A na ca) := blk_cell hb8 2)))
     all_goals
      have hx := ScAt.app (blk_alloc hb2 _) (hr2.alloc _) hap
      have HK : Aside0 (_ ∧ _) := ⟨hx.1, ((HF1.out.scG hf2.of_drewN).scB (below_alloc (Below.refl _ _) _)).sc hx.2⟩
      clear hx hap hb8 f8 d8 hs2 hr2 hb2 d2 d5 hf2 hn8 HKO
      go_wp2_with fail
      go_returns
      unfold EsPost
      rw [HE2.out]
      exact ⟨rfl, HK.out.1, HK.out.2⟩
   ·obtain ⟨p1, hp1⟩ : ∃ q, q = p + 1 := ⟨_, rfl⟩
    have e1 : (p : Int) + 1 = (p1 : Int) := by omega
    have HM := Aside0.mk (ScV.move (w := W1.drewN nq) (ScV.drawn (w := W1) ⟨HBR.out.1, HBR.out.2.1⟩ ⟨_, rfl⟩) p1)
    have HFM : Aside0 (Fr w ((W1.drewN nq).setCell ⟨g, 1, none⟩ (.int .i64 (p1 : Int))) (SC B g w)) := ⟨HF2.out.scG HM.out.2⟩
    have he := HE.out
    rw [if_neg (by decide), if_neg hoct, ← hp1] at he
    have HE2 := Aside0.mk he
    have hna := HBR.out.2.2
    have HNA := Aside0.mk hna
    have s23 : decide (48 ≤ c) = false ∨ (decide (48 ≤ c) = true ∧ decide (c ≤ 55) = false) := by
     by_cases h : 48 ≤ c
     ·exact .inr ⟨decide_eq_true h, decide_eq_false (fun h2 => hoct ⟨h, h2⟩)⟩
     ·exact .inl (decide_eq_false h)
    clear hp1 he HE HS2 HF2 HS1 HF1 HBR hoct hna
    rcases s23 with s2 | ⟨s2, s3⟩
    all_goals
     go_upto_region 12 with fail
     generalize World.setCell (World.drewN W1 nq) _ _ = W3 at HM HFM ⊢
     go_upto_block 0 with fail
     go_cut [3] (fun v3 wc => ∃ y : Int, v3 = .int .u8 y ∧ Aside0 (y = mapE c) ∧ Aside0 (ScV wc B g s p1 A na ca o ∧ Fr (W1.drewN nq) W3 (· = g)) ∧ Aside0 (Fr w wc (SC B g w)))
     case first =>
      by_cases h110 : c = 110
      ·have t110 : (c == 110) = true := beq_iff_eq.2 h110
       have hm : mapE c = 10 := by rw [h110]; rfl
       clear h110
       go_wp2_with fail
       go_meet
       exact ⟨10, rfl, ⟨hm.symm⟩, HM, HFM⟩
      have t110 : (c == 110) = false := beq_false_of_ne h110
      by_cases h114 : c = 114
      ·have t114 : (c == 114) = true := beq_iff_eq.2 h114
       have hm : mapE c = 13 := by rw [h114]; rfl
       clear h114
       go_wp2_with fail
       go_meet
       exact ⟨13, rfl, ⟨hm.symm⟩, HM, HFM⟩
      have t114 : (c == 114) = false := beq_false_of_ne h114
      by_cases h116 : c = 116
      ·have t116 : (c == 116) = true := beq_iff_eq.2 h116
       have hm : mapE c = 9 := by rw [h116]; rfl
       clear h116
       go_wp2_with fail
       go_meet
       exact ⟨9, rfl, ⟨hm.symm⟩, HM, HFM⟩
      have t116 : (c == 116) = false := beq_false_of_ne h116
      by_cases h98 : c = 98
      ·have t98 : (c == 98) = true := beq_iff_eq.2 h98
       have hm : mapE c = 8 := by rw [h98]; rfl
       clear h98
       go_wp2_with fail
       go_meet
       exact ⟨8, rfl, ⟨hm.symm⟩, HM, HFM⟩
      have t98 : (c == 98) = false := beq_false_of_ne h98
      by_cases h102 : c = 102
      ·have t102 : (c == 102) = true := beq_iff_eq.2 h102
       have hm : mapE c = 12 := by rw [h102]; rfl
       clear h102
       go_wp2_with fail
       go_meet
       exact ⟨12, rfl, ⟨hm.symm⟩, HM, HFM⟩
      have t102 : (c == 102) = false := beq_false_of_ne h102
      have hm : mapE c = c := by unfold mapE; rw [if_neg h110, if_neg h114, if_neg h116, if_neg h98, if_neg h102]
      clear h110 h114 h116 h98 h102
      go_wp2_with fail
      go_meet
      exact ⟨c, rfl, ⟨hm.symm⟩, HM, HFM⟩
     case rest =>
      obtain ⟨y, rfl, HY, HV, HF⟩ := hcut
      have HBR : Aside0 (_ ∧ _) := ⟨HV.out.1.blk, HV.out.1.row⟩
      have hl1 : o.length + 1 ≤ maxLen := by unfold maxLen; omega
      have hl2 : (o.length + 1) * 1 ≤ 140737488355328 := by omega
      have hBx : B ≤ (wc.alloc (.cells #[.int .u8 y] 5)).heap.size := by have := HF.out.size; simp; omega
      have c2 : wc.cell? ⟨g, 2, none⟩ = some (.slice A na ca) := blk_cell HV.out.1.blk 2
      clear HM HFM
      go_upto_region 24 with (at_builtin; refine app_wp B rfl _ _ 45 5 .u8 1 rfl Try.underlying45 infoU8 (.slice A na ca) o [y] rfl ⟨wc.heap.size, 0, none⟩ 1 1 rfl rfl (news_lit wc .u8 [y] _ _ (by rfl)) (HBR.out.2.alloc _) hBx hl1 hl2 ?_; intro v8 w8 hap; obtain ⟨A8, n8, k8, hv8, hn8⟩ := hap.row.shape; subst hv8; have hb8 := hap.blk (HBR.out.2.alloc _) (blk_alloc HBR.out.1 _) (by decide); have f8 := blk_frozen hb8 2; have d8 : w8.cell? ⟨g, 2, none⟩ = some (.slice A na ca) := blk_cell hb8 2)
      have hx := ScAt.app (blk_alloc HBR.out.1 _) (HBR.out.2.alloc _) hap
      have HK : Aside0 (_ ∧ _) := ⟨hx.1, (HF.out.scB (below_alloc (Below.refl _ _) _)).sc hx.2⟩
      clear hap hb8 f8 d8 hx HBR c2 hBx hl1 hl2
      go_wp2_with fail
      go_returns
      unfold EsPost
      rw [HE2.out, ← HY.out]
      exact ⟨rfl, HK.out.1, HK.out.2⟩
 ·go_enter Try.func44, Try.ntmps44
  go_wp2_with fail
  refine KM.out.mono ?_
  rintro e W1 ⟨c', b', rfl, HCB, hd1⟩
  have hcb := HCB.out
  rw [decide_eq_false hlt] at hcb
  obtain ⟨-, rfl⟩ := hcb
  clear HCB
  go_wp2_with fail
  go_returns
  unfold EsPost
  rw [show escapeF s p = none from if_neg hlt]
  exact ⟨rfl, ⟨p, o, H.out.drawn hd1⟩, Fr.of_drawn hd1 _⟩
end Go.Proofs.Ytkmmmlbppobifaa.Hand
