/- The scanner of layer 15: name, escape; walked by hand. -/
import Derived.Test.YtkmmmlbppobifaaHand15s
namespace Go.Proofs.Ytkmmmlbppobifaa.Hand
open Go.RowKit Go.Proofs.YtkmmmlbppobifaaW.PrintWords Go.Proofs.YtkmmmlbppobifaaW.PrintLast Go.Proofs.YtkmmmlbppobifaaW.PrintMore Go.Proofs.Ytkmmmlbppobifaa.Num Go.Proofs.Ytkmmmlbppobifaa.P01a
set_option linter.unusedVariables false
set_option linter.unusedSimpArgs false
theorem ScAt.app {w w1 : World} {B g : Nat} {s : ByteArray} {p : Nat} {o o' : List Int} {v v' : Value} (hb : w.heap[g]? = some (.cells #[.string s, .int .i64 (p : Int), v] 47 (0, 0))) (hr : Row w B 5 .u8 v o)
  (hap : App w w1 B 5 .u8 v v' o') : ScAt (w1.setCell ⟨g, 2, none⟩ v') B g s p o' ∧ Fr w (w1.setCell ⟨g, 2, none⟩ v') (SC B g w) := by
 have hb1 := hap.blk hr hb (by decide)
 have hb2 := blk_set hb1 2 v'
 have hf1 : Fr w w1 (SC B g w) := (Fr.of_grown hap.grown).mono (fun k hk hv => by
  refine .inr ⟨(hr.lt k hv).1, ?_⟩
  obtain ⟨cs, hc⟩ := hr.blk k hv
  exact ⟨cs, (0, 0), hc⟩)
 have hf2 : Fr w1 (w1.setCell ⟨g, 2, none⟩ v') (· = g) := (Fr.refl _ _).set1 2 v'
 exact ⟨⟨v', hb2, hap.row.fr hf2 (fun j hj => hap.row.ne_blk hb1 (by decide) j hj)⟩, hf1.scG hf2⟩
def nameF (s : ByteArray) : Nat → Nat → List Int → Int × List Int × Nat
 | 0, _, _ => (99, [], 0)
 | k + 1, p, o => if p < s.size ∧ kF (bt s (p : Int)) = 2 then
   (if bt s (p : Int) = 35 then (match escF s (p + 1) with
     | none => (4, [], 0)
     | some c => if 127 < o.length + 1 then (8, [], 0) else nameF s k (p + 3) (o ++ [c]))
    else if 127 < o.length + 1 then (8, [], 0) else nameF s k (p + 1) (o ++ [bt s (p : Int)]))
  else (0, o, p)
def tokOf (kind : Int) (r : Int × List Int × Nat) : Int × Int × Int × ByteArray × Nat := if r.1 = 0 then (0, kind, 0, strOfNums r.2.1, r.2.2) else (r.1, 0, 0, ⟨#[]⟩, 0)
theorem tokOf_ok (kind : Int) (o : List Int) (p : Nat) : tokOf kind (0, o, p) = (0, kind, 0, strOfNums o, p) := if_pos rfl
theorem escF_range {s : ByteArray} {p : Nat} {c : Int} (h : escF s p = some c) : 0 ≤ c ∧ c ≤ 255 ∧ p + 1 < s.size := by
 unfold escF at h
 split at h
 ·rename_i hlt
  split at h
  ·cases h
  ·injection h with h
   have h1 := hexF_range (bt s (p : Int))
   have h2 := hexF_range (bt s ((p + 1 : Nat) : Int))
   omega
 ·cases h
theorem more_any (w : World) (B g : Nat) (s : ByteArray) (p : Nat) (o : List Int) (h : ScAt w B g s p o) (hs : s.size ≤ 1000000) :
  Calls Try.prog 41 #[.pointer (some ⟨g, 0, none⟩)] w fun e w' => ∃ (c : Int) (b : Bool), e = .returned (.tuple #[.int .u8 c, .bool b]) ∧ Aside0 (c = (if p < s.size then bt s (p : Int) else 0) ∧ b = decide (p < s.size)) ∧ Drawn0 w w' :=
 (more_calls w B g s p o h hs).mono fun e w' h => ⟨_, _, h.1, ⟨rfl, rfl⟩, h.2⟩
set_option maxRecDepth 100000 in
set_option maxHeartbeats 4000000 in
theorem name_calls (w : World) (B g : Nat) (s : ByteArray) (p K : Nat) (h : ScAt w B g s p []) (hs : s.size ≤ 60000) (hp : p < s.size) (hB : B ≤ w.heap.size) (hK : s.size < p + 1 + K) :
  Calls Try.prog 28 #[.pointer (some ⟨g, 0, none⟩)] w (TkPost B g s w (tokOf 2 (nameF s K (p + 1) []))) := by
 have HT := Aside0.mk (Tz.new h)
 obtain ⟨z, hz⟩ : ∃ z, z = w.heap.size := ⟨_, rfl⟩
 obtain ⟨p1, hp1⟩ : ∃ q, q = p + 1 := ⟨_, rfl⟩
 rw [← hp1] at hK ⊢
 have e1 : (p : Int) + 1 = (p1 : Int) := by omega
 obtain ⟨res, hres⟩ : ∃ res, res = nameF s K p1 [] := ⟨_, rfl⟩
 rw [← hres]
 have HRES := Aside0.mk hres
 have hp1s : p1 ≤ s.size := by omega
 clear h hres hp1
 go_enter Try.func28, Try.ntmps28
 go_upto_region 1 with fail
 rw [← hz] at HT ⊢
 clear hz
 generalize World.alloc w _ = W0 at HT ⊢
 obtain ⟨A, n, c, hn, hb, hr, c0, c1, c2, f1, f2⟩ := HT.out.sc.cells
 have HM := Aside0.mk (HT.out.move p1)
 clear hn hb hr c0 c2 f2
 go_upto_region 2 with fail
 generalize World.setCell W0 _ _ = W1 at HM ⊢
 have KM := more_any W1 B g s p1 [] HM.out.sc (by omega)
 have HKM := Aside0.mk KM
 clear KM HT c1 f1 e1
 go_wp2_with fail
 refine HKM.out.mono ?_
 rintro e W2 ⟨cx, bx, rfl, HCX, hd2⟩
 have HM2 := Aside0.mk (HM.out.drawn hd2)
 clear HKM hd2 HM
 go_wp2_with fail
 go_loopg [4, 5] K (fun kq v4 v5 wr => ∃ (q : Nat) (o : List Int) (c : Int) (b : Bool), v4 = .int .u8 c ∧ v5 = .bool b ∧ Aside0 (c = (if q < s.size then bt s (q : Int) else 0) ∧ b = decide (q < s.size)) ∧ q ≤ s.size ∧ s.size < q + kq ∧ o.length ≤ 127 ∧ Aside0 (Tz w wr B g z s q o) ∧ Aside0 (res = nameF s kq q o))
 case atStart => exact ⟨p1, [], cx, bx, rfl, rfl, HCX, hp1s, hK, by decide, HM2, HRES⟩
 case round =>
  clear HRES HM2
  obtain ⟨q, o, c, b, rfl, rfl, HCB, hq, hk, hol, HS, HR⟩ := hrel
  obtain ⟨hc, hb⟩ := HCB.out
  cases gk with
  | zero => exact absurd hk (by omega)
  | succ k1 =>
   have hrec := HR.out
   rw [nameF] at hrec
   by_cases hlt : q < s.size
   ·rw [if_pos hlt] at hc
    rw [decide_eq_true hlt] at hb
    subst hb
    have KK := Aside0.mk (fun W => kind_calls (bt s (q : Int)) W)
    have hcr := bt_range s (q : Int)
    rw [← hc] at KK hrec hcr
    have HC := Aside0.mk hc
    clear hc HR HCB
    by_cases h2 : kF c = 2
    ·rw [h2] at KK
     rw [if_pos ⟨hlt, h2⟩] at hrec
     have HREC := Aside0.mk hrec
     clear hrec h2
     obtain ⟨A, n, ca, hn, hb, hr, c0, c1, c2, f1, f2⟩ := HS.out.sc.cells
     obtain ⟨q1, hq1⟩ : ∃ q1, q1 = q + 1 := ⟨_, rfl⟩
     have e1 : (q : Int) + 1 = (q1 : Int) := by omega
     have hq1s : q1 ≤ s.size := by omega
     have HM := fun nd => Aside0.mk ((HS.out.drawn (W1 := wr.drewN nd) ⟨_, rfl⟩).move q1)
     have hrec2 := HREC.out
     rw [← hq1, show q + 3 = q1 + 2 by omega] at hrec2
     have HREC := Aside0.mk hrec2
     have HQ := Aside0.mk hq1
     clear hq1 hrec2
     clear hn hb hr c0 c2 f2 HS
     go_upto_region 6 with (first | (go_at_call 40; (with_reducible refine (KK.out _).mono ?_); rintro e w1 ⟨rfl, ⟨nd, rfl⟩⟩))
     replace HM := HM nd
     generalize World.setCell (World.drewN wr nd) _ _ = W4 at HM ⊢
     clear c1 f1 KK e1
     go_upto_if 37 with (fail)
     go_cut [4, 5] (fun v4 v5 wc => ∃ (c' : Int) (q2 : Nat) (u5 : Value), v4 = .int .u8 c' ∧ v5 = u5 ∧ 0 ≤ c' ∧ c' ≤ 255 ∧ q1 ≤ q2 ∧ q2 ≤ s.size ∧ Aside0 (Tz w wc B g z s q2 o) ∧ Aside0 (res = if 127 < o.length + 1 then (8, [], 0) else nameF s k1 q2 (o ++ [c'])))
     case first =>
      by_cases h35 : c = 35
      ·have s1 : (c == 35) = true := beq_iff_eq.2 h35
       have hrec := HREC.out
       rw [if_pos h35] at hrec
       have KE := escaped_calls W4 B g s q1 o HM.out.sc (by omega) hq1s
       unfold EscPost at KE
       cases he : escF s q1 with
       | none =>
        rw [he] at hrec KE
        subst hrec
        have HKE := Aside0.mk KE
        clear KE he HREC
        go_wp2_with fail
        refine HKE.out.mono ?_
        rintro e W5 ⟨rfl, ⟨q5, hs5⟩, hf5⟩
        have HT5 := Aside0.mk (HM.out.step hs5 (hf5.mono (fun _ _ h => .inl h)))
        clear hs5 hf5 HKE HM
        go_wp2_with fail
        refine (bad_calls 4 W5).mono ?_
        rintro e W6 ⟨rfl, hb6⟩
        have HT6 := Aside0.mk (HT5.out.below hb6)
        have zb := HT6.out.zb
        have HP := HT6.out.put (tokC 0 0 ⟨#[]⟩ 0 0)
        clear HT5 hb6
        go_wp2_with (refine wpList_store_rowTo rfl 24 _ _ rfl rfl z (tokC 0 0 ⟨#[]⟩ 0 0) rfl rfl 24 _ zb tokInfo rfl (tok_one _ _ _ _ _) ?_)
        repeat (rw [Exit.noGoto_ret])
        exact bodyPost_ret (results_ct rfl _ _ z 24 (tokC 0 0 ⟨#[]⟩ 0 0) (0, 0) _ rfl HP.1 Try.underlying24 rfl tokInfo) rfl (TkPost.mk_ rfl HP.2.1 (fun h => absurd h (by decide)) HP.2.2)
       | some c' =>
        rw [he] at hrec KE
        have hcr' := escF_range he
        have HKE := Aside0.mk KE
        have HRE2 := Aside0.mk hrec
        clear KE he HREC hrec
        go_wp2_with fail
        refine HKE.out.mono ?_
        rintro e W5 ⟨rfl, hs5, hf5⟩
        have HT5 := Aside0.mk (HM.out.step hs5 (hf5.mono (fun _ _ h => .inl h)))
        clear hs5 hf5 HKE HM
        go_wp2_with fail
        go_meet
        exact ⟨c', q1 + 2, _, rfl, rfl, hcr'.1, hcr'.2.1, by omega, by omega, HT5, HRE2⟩
      ·have s1 : (c == 35) = false := beq_false_of_ne h35
       have hrec := HREC.out
       rw [if_neg h35] at hrec
       have HRE2 := Aside0.mk hrec
       clear HREC hrec
       go_wp2_with fail
       go_meet
       exact ⟨c, q1, _, rfl, rfl, hcr.1, hcr.2, Nat.le_refl _, hq1s, HM, HRE2⟩
     case rest =>
      obtain ⟨c', q2, u5', rfl, rfl, hc0, hc255, hq12, hq2s, HT2, HR2⟩ := hcut
      clear HM HREC HC
      obtain ⟨A, n, ca, hn, hb, hr, c0, c1, c2, f1, f2⟩ := HT2.out.sc.cells
      have HBR : Aside0 (_ ∧ _) := ⟨hb, hr⟩
      have hl1 : o.length + 1 ≤ maxLen := by unfold maxLen; omega
      have hl2 : (o.length + 1) * 1 ≤ 140737488355328 := by omega
      have hBx : B ≤ (wc.alloc (.cells #[.int .u8 c'] 5)).heap.size := by have := HT2.out.fr.size; simp; omega
      clear hn hb hr c0 c1 f1
      go_upto_region 11 with (at_builtin; refine app_wp B rfl _ _ 45 5 .u8 1 rfl Try.underlying45 infoU8 (.slice A n ca) o [c'] rfl ⟨wc.heap.size, 0, none⟩ 1 1 rfl rfl (news_lit wc .u8 [c'] _ _ (by rfl)) (HBR.out.2.alloc _) hBx hl1 hl2 ?_; intro v8 w8 hap; obtain ⟨A8, n8, k8, hv8, hn8⟩ := hap.row.shape; subst hv8; have hb8 := hap.blk (HBR.out.2.alloc _) (blk_alloc HBR.out.1 _) (by decide); have f8 := blk_frozen hb8 2; have d8 : w8.cell? ⟨g, 2, none⟩ = some (.slice A n ca) := blk_cell hb8 2)
      have hx := ScAt.app (blk_alloc HBR.out.1 _) (HBR.out.2.alloc _) hap
      have HT3 := Aside0.mk ((HT2.out.below (below_alloc (Below.refl _ _) _)).step hx.1 hx.2)
      clear hap hb8 f8 d8 hx HT2 HBR c2 f2 hBx hl1 hl2
      generalize World.setCell w8 _ _ = W9 at HT3 ⊢
      have hlen : n8 = o.length + 1 := by rw [hn8.out, List.length_append]; rfl
      obtain ⟨A9, n9, k9, hn9, hb9, hr9, d0, d1, d2, g1, g2⟩ := HT3.out.sc.cells
      have hn9' : n9 = o.length + 1 := by rw [hn9.out, List.length_append]; rfl
      clear hn9 hb9 hr9 d0 d1 g1 g2 hn8 hlen
      by_cases h127 : 127 < o.length + 1
      ·have s1 : decide ((127 : Int) < (n9 : Int)) = true := decide_eq_true (by omega)
       have s1n : decide (127 < n9) = true := decide_eq_true (by omega)
       have hrec := HR2.out
       rw [if_pos h127] at hrec
       subst hrec
       clear hn9'
       go_wp2_with fail
       refine (bad_calls 8 W9).mono ?_
       rintro e W6 ⟨rfl, hb6⟩
       have HT6 := Aside0.mk (HT3.out.below hb6)
       have zb := HT6.out.zb
       have HP := HT6.out.put (tokC 0 0 ⟨#[]⟩ 0 0)
       clear HT3 hb6
       go_wp2_with (refine wpList_store_rowTo rfl 24 _ _ rfl rfl z (tokC 0 0 ⟨#[]⟩ 0 0) rfl rfl 24 _ zb tokInfo rfl (tok_one _ _ _ _ _) ?_)
       repeat (rw [Exit.noGoto_ret])
       exact bodyPost_ret (results_ct rfl _ _ z 24 (tokC 0 0 ⟨#[]⟩ 0 0) (0, 0) _ rfl HP.1 Try.underlying24 rfl tokInfo) rfl (TkPost.mk_ rfl HP.2.1 (fun h => absurd h (by decide)) HP.2.2)
      ·have s1 : decide ((127 : Int) < (n9 : Int)) = false := decide_eq_false (by omega)
       have s1n : decide (127 < n9) = false := decide_eq_false (by omega)
       have hrec := HR2.out
       rw [if_neg h127] at hrec
       have HR3 := Aside0.mk hrec
       have hol2 : (o ++ [c']).length ≤ 127 := by rw [List.length_append]; show o.length + 1 ≤ 127; omega
       have KM := Aside0.mk (more_any W9 B g s q2 (o ++ [c']) HT3.out.sc (by omega))
       have hk2 : s.size < q2 + k1 := by have := HQ.out; omega
       clear hn9' hrec HR2
       go_wp2_with fail
       refine KM.out.mono ?_
       rintro e W6 ⟨cy, by_, rfl, HCY, hd6⟩
       have HT6 := Aside0.mk (HT3.out.drawn hd6)
       clear hd6 HT3 KM
       go_wp2_with fail
       go_roundg k1
       case measure => omega
       case rel => exact ⟨q2, o ++ [c'], cy, by_, rfl, rfl, HCY, hq2s, hk2, hol2, HT6, HR3⟩
    ·have hrec2 := hrec
     rw [if_neg (fun h => h2 h.2)] at hrec2
     subst hrec2
     clear hrec
     have s1 : (kF c == 2) = false := beq_false_of_ne h2
     go_wp2_with (first | (go_at_call 40; (with_reducible refine (KK.out _).mono ?_); rintro e w1 ⟨rfl, ⟨nd, rfl⟩⟩))
     obtain ⟨W3, hW3⟩ : ∃ W, W = wr.drewN nd := ⟨_, rfl⟩
     rw [← hW3]
     have HT3 : Aside0 (Tz w W3 B g z s q o) := ⟨by rw [hW3]; exact HS.out.drawn ⟨_, rfl⟩⟩
     clear hW3 HS
     refine (told_calls W3 B g s q o 2 HT3.out.sc (by decide)).mono ?_
     rintro e W6 ⟨rfl, ⟨q6, o6, hs6, hq6⟩, hf6⟩
     have HT6 := Aside0.mk (HT3.out.step hs6 hf6)
     obtain rfl := hq6 rfl
     have zb := HT6.out.zb
     obtain ⟨st, hst⟩ : ∃ st, st = strOfNums o := ⟨_, rfl⟩
     have HST := Aside0.mk hst
     dsimp only
     rw [← hst]
     have HP := HT6.out.put (tokC 2 0 st 0 0)
     clear HT3 hs6 hf6 hst
     go_wp2_with (refine wpList_store_rowTo rfl 24 _ _ rfl rfl z (tokC 2 0 st 0 0) rfl rfl 24 _ zb tokInfo rfl (tok_one _ _ _ _ _) ?_)
     exact bodyPost_ret (results_ct rfl _ _ z 24 (tokC 2 0 st 0 0) (0, 0) _ rfl HP.1 Try.underlying24 rfl tokInfo) rfl (TkPost.mk_ (by rw [tokOf_ok, HST.out]; rfl) HP.2.1 (fun h => by rw [tokOf_ok]) HP.2.2)
   ·rw [if_neg hlt] at hc
    rw [decide_eq_false hlt] at hb
    subst hc hb
    rw [if_neg (fun h => hlt h.1)] at hrec
    subst hrec
    go_wp2_with fail
    obtain ⟨W3, hW3⟩ : ∃ W, W = wr := ⟨_, rfl⟩
    rw [← hW3]
    have HT3 : Aside0 (Tz w W3 B g z s q o) := ⟨by rw [hW3]; exact HS.out⟩
    clear hW3 HS
    refine (told_calls W3 B g s q o 2 HT3.out.sc (by decide)).mono ?_
    rintro e W6 ⟨rfl, ⟨q6, o6, hs6, hq6⟩, hf6⟩
    have HT6 := Aside0.mk (HT3.out.step hs6 hf6)
    obtain rfl := hq6 rfl
    have zb := HT6.out.zb
    obtain ⟨st, hst⟩ : ∃ st, st = strOfNums o := ⟨_, rfl⟩
    have HST := Aside0.mk hst
    dsimp only
    rw [← hst]
    have HP := HT6.out.put (tokC 2 0 st 0 0)
    clear HT3 hs6 hf6 hst
    go_wp2_with (refine wpList_store_rowTo rfl 24 _ _ rfl rfl z (tokC 2 0 st 0 0) rfl rfl 24 _ zb tokInfo rfl (tok_one _ _ _ _ _) ?_)
    exact bodyPost_ret (results_ct rfl _ _ z 24 (tokC 2 0 st 0 0) (0, 0) _ rfl HP.1 Try.underlying24 rfl tokInfo) rfl (TkPost.mk_ (by rw [tokOf_ok, HST.out]; rfl) HP.2.1 (fun h => by rw [tokOf_ok]) HP.2.2)
end Go.Proofs.Ytkmmmlbppobifaa.Hand
