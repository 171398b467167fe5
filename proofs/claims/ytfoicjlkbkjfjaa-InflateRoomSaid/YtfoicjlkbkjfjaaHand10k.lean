/- Inflate: own; walked by hand. -/
import Derived.Test.YtfoicjlkbkjfjaaHand10j
namespace Go.Proofs.Ytfoicjlkbkjfjaa.Hand
open Go.RowKit Go.Proofs.YtfoicjlkbkjfjaaW.PrintWords Go.Proofs.YtfoicjlkbkjfjaaW.PrintLast Go.Proofs.YtfoicjlkbkjfjaaW.PrintMore Go.Proofs.Ytfoicjlkbkjfjaa.Num Go.Proofs.Ytfoicjlkbkjfjaa.Bits
set_option linter.unusedVariables false
set_option linter.unusedSimpArgs false
/-- What own does behind its three numbers. -/
def ownRest (ns : List Int) : RM Unit := if 29 < ns.getD 0 0 ∨ 29 < ns.getD 1 0 then RM.err 4 else
  (headsM ((ns.getD 2 0).toNat + 4)).bind fun l => (rowM l ((ns.getD 0 0).toNat + (ns.getD 1 0).toNat + 258) 400 []).bind fun row =>
    if chkF (row.take ((ns.getD 0 0).toNat + 257)) ≠ 0 ∨ row.getD 256 0 = 0 ∨ reachB (row.drop ((ns.getD 0 0).toNat + 257)) = false then RM.err 4 else codedM (row.take ((ns.getD 0 0).toNat + 257)) (row.drop ((ns.getD 0 0).toNat + 257)) bigK
def widthsT : List Nat := [5, 5, 4]
def ownL : Nat → Nat → List Int → RM Unit
  | 0, _, ns => ownRest ns
  | j + 1, i, ns => (getM (widthsT.getD i 0)).bind fun n => ownL j (i + 1) (ns.set i n)
theorem own_eq : ownM = ownL 3 0 [0, 0, 0] := rfl
set_option maxRecDepth 100000 in
theorem index_widths (W : World) (i : Nat) (hi : i < 3) : (Instr.index 126 (.agg #[.int .i64 5, .int .i64 5, .int .i64 4]) (.int .i64 (i : Int))).run Try.prog W = .ok (.int .i64 ((widthsT.getD i 0 : Nat) : Int)) W := by
  obtain ⟨ie, hie, hsz⟩ := Option.map_eq_some_iff.1 infoInt1
  have h := run_index_ints W _ 3 3 ie Try.underlying126 (aggInt W) hie hsz [5, 5, 4] rfl i hi
  have e : ([5, 5, 4] : List Int).getD i 0 = ((widthsT.getD i 0 : Nat) : Int) := by
    match i, hi with
    | 0, _ => rfl
    | 1, _ => rfl
    | 2, _ => rfl
  rw [e] at h
  exact h
theorem widths_le : ∀ i, i < 3 → widthsT.getD i 0 ≤ 5 := by decide
/-- A row's head, and what is behind it. -/
theorem reads_take {w : World} {A : Option Addr} {l : List Int} (h : ReadsInt w .i64 A l.length l) (k : Nat) (hk : k ≤ l.length) : ReadsInt w .i64 A (l.take k).length (l.take k) := by
  obtain ⟨h1, h2, h3⟩ := h
  refine ⟨rfl, by rw [List.length_take]; omega, fun hn => ?_⟩
  rw [List.length_take] at hn
  obtain ⟨ad, e, hc⟩ := h3 (by omega)
  refine ⟨ad, e, fun j hj => ?_⟩
  rw [List.length_take] at hj
  rw [hc j (by omega)]
  congr 2
  rw [List.getD_eq_getElem?_getD, List.getD_eq_getElem?_getD, List.getElem?_take, if_pos (by omega)]
theorem reads_drop {w : World} {ad : Addr} {l : List Int} (h : ReadsInt w .i64 (some ad) l.length l) (k : Nat) (hk : k ≤ l.length) (had : ∀ j, (ad.add k).add j = ad.add (k + j)) : ReadsInt w .i64 (some (ad.add k)) (l.drop k).length (l.drop k) := by
  obtain ⟨h1, h2, h3⟩ := h
  refine ⟨rfl, by rw [List.length_drop]; omega, fun hn => ?_⟩
  rw [List.length_drop] at hn
  obtain ⟨ad', e, hc⟩ := h3 (by omega)
  injection e with e
  subst e
  refine ⟨_, rfl, fun j hj => ?_⟩
  rw [List.length_drop] at hj
  rw [had, hc (k + j) (by omega)]
  congr 2
  rw [List.getD_eq_getElem?_getD, List.getD_eq_getElem?_getD, List.getElem?_drop]
/-- What own holds in its loop. -/
structure OwMid (w W : World) (B x g a : Nat) (s : ByteArray) (p : Nat) (o : List Int) (m : Int) (ns : List Int) : Prop where
  inf : InfAt W B x g s p o m
  blk : W.heap[a]? = some (.cells (nums .i64 ns).toArray 126 (0, 0))
  fr : Fr w W (SI B x g w)
  len : ns.length = 3
set_option maxRecDepth 100000 in
set_option maxHeartbeats 4000000 in
theorem own_calls (w : World) (B x g : Nat) (s : ByteArray) (p : Nat) (o : List Int) (m : Int) (h : InfAt w B x g s p o m) (hs : s.size ≤ 1000000) (hB : B ≤ w.heap.size) (hm0 : 0 ≤ m) (hm : m ≤ 10000000) (ho : (o.length : Int) ≤ m) (hp : p ≤ 8 * s.size) :
    Calls Try.prog 65 #[.pointer (some ⟨x, 0, none⟩)] w fun e w' =>
      Left (ownM s m p o) (fun _ => .int .i64 0) (fun c => .int .i64 c) w' B x g s m e ∧ Fr w w' (SI B x g w) := by
  obtain ⟨res, hres⟩ : ∃ res, res = ownM s m p o := ⟨_, rfl⟩
  rw [← hres]
  rw [own_eq] at hres
  have HRES := Aside0.mk hres
  have hxl : x < w.heap.size := by obtain ⟨v, hb, _⟩ := h.blk; exact blk_lt hb
  have hgl : g < w.heap.size := blk_lt h.rd.blk
  have HXG : Aside0 (_ ∧ _) := ⟨hxl, hgl⟩
  have H0 := Aside0.mk h
  have KI := Aside0.mk (fun (W : World) (i : Nat) (hi : i < 3) => index_widths W i hi)
  clear h hres hxl hgl
  go_enter Try.func65, Try.ntmps65
  go_upto_block 0 with fail
  obtain ⟨a, ha⟩ : ∃ a, a = w.heap.size := ⟨_, rfl⟩
  have hbz := below_alloc (Below.refl w.heap.size w) (.cells #[.int .i64 0, .int .i64 0, .int .i64 0] 126)
  have H1 : Aside0 (OwMid w (w.alloc (.cells #[.int .i64 0, .int .i64 0, .int .i64 0] 126)) B x g w.heap.size s p o m [0, 0, 0]) := ⟨⟨H0.out.below hbz, heap_alloc_new w _, Fr.of_below hbz _, rfl⟩⟩
  rw [← ha] at H1 ⊢
  have HA := Aside0.mk ha
  generalize World.alloc w _ = W1 at H1 ⊢
  clear hbz ha H0
  go_cut [] (fun wc => ∃ (p1 : Nat) (ns : List Int), p1 ≤ 8 * s.size ∧ Aside0 (OwMid w wc B x g a s p1 o m ns ∧ res = ownRest ns s m p1 o ∧ ∀ n ∈ ns, 0 ≤ n ∧ n ≤ 31))
  case first =>
    go_wp2_with fail
    go_loopw [18] (fun v18 wr => ∃ (i p1 : Nat) (ns : List Int), v18 = .int .i64 i ∧ i ≤ 3 ∧ p1 ≤ 8 * s.size ∧ Aside0 (OwMid w wr B x g a s p1 o m ns ∧ res = ownL (3 - i) i ns s m p1 o ∧ ∀ n ∈ ns, 0 ≤ n ∧ n ≤ 31)) (fun v18 _ => 3 - (intOf v18).toNat)
    case atStart => exact ⟨0, p, _, rfl, by omega, hp, H1.out, HRES.out, by simp⟩
    case round =>
      clear H1 HRES
      obtain ⟨i, p1, ns, rfl, hi, hp1, HW⟩ := hrel
      have hrec := HW.out.2.1
      by_cases hlt : i < 3
      · have q1 : decide ((i : Int) < 3) = true := decide_eq_true (by omega)
        have q1n : decide (i < 3) = true := decide_eq_true hlt
        have hx := fun W => KI.out W i hlt
        obtain ⟨k, hk⟩ : ∃ k, k = widthsT.getD i 0 := ⟨_, rfl⟩
        have hk5 : k ≤ 5 := by rw [hk]; exact widths_le i hlt
        rw [← hk] at hx
        rw [show 3 - i = (3 - (i + 1)) + 1 by omega, ownL, ← hk] at hrec
        obtain ⟨v1, hb1, _⟩ := HW.out.1.inf.blk
        have c1 : wr.cell? ⟨x, 0, none⟩ = some (.pointer (some ⟨g, 0, none⟩)) := blk_cell hb1 0
        clear hb1 hk
        by_cases h3 : p1 + k ≤ 8 * s.size
        · have K1 := rd_get wr g s p1 k HW.out.1.inf.rd (by omega) (by omega) h3
          rw [bind_ok (get_ok h3)] at hrec
          have hv := val_range s p1 k
          have hpw := pow_le2 hk5
          obtain ⟨y, hy⟩ : ∃ y, y = val s p1 k := ⟨_, rfl⟩
          rw [← hy] at K1 hrec hv
          have hy31 : 0 ≤ y ∧ y ≤ 31 := by have e : (2 : Int) ^ 5 = 32 := by decide
                                           omega
          have K1 := Aside0.mk K1
          have HREC := Aside0.mk hrec
          clear hy hrec hv hpw
          go_wp2_with fail
          refine K1.out.mono ?_
          rintro e w2 ⟨rfl, h2, f2⟩
          have hag : ¬ a = g := by have := HXG.out.2; have := HA.out; omega
          have HW2 : Aside0 (OwMid w w2 B x g a s (p1 + k) o m ns ∧ ∀ n ∈ ns, 0 ≤ n ∧ n ≤ 31) := ⟨⟨HW.out.1.inf.read h2 f2, f2.blk HW.out.1.blk hag, HW.out.1.fr.si f2.siR, HW.out.1.len⟩, HW.out.2.2⟩
          clear h2 f2 HW K1 c1 hag
          have d1 : w2.cell? ⟨a, i, none⟩ = some (.int .i64 (ns.getD i 0)) := (blk_cell HW2.out.1.blk i).trans (nums_at ns i (by rw [HW2.out.1.len]; exact hlt))
          have d2 := blk_frozen HW2.out.1.blk i
          have hix0 : (0 : Int) ≤ (i : Int) := by omega
          have hix1 : (i : Int) < 3 := by omega
          go_wp2_with fail
          have HS : Aside0 (OwMid w (w2.setCell ⟨a, i, none⟩ (.int .i64 y)) B x g a s (p1 + k) o m (ns.set i y)) := by
            have hf : Fr w2 (w2.setCell ⟨a, i, none⟩ (.int .i64 y)) (· = a) := (Fr.refl _ _).set1 i _
            obtain ⟨v2, hb2, hr2⟩ := HW2.out.1.inf.blk
            have hA := HA.out
            have hX := HXG.out
            refine ⟨⟨⟨⟨v2, hf.blk hb2 (by omega), hr2.fr hf (fun j hj => hr2.ne_blk HW2.out.1.blk (by decide) j hj)⟩, HW2.out.1.inf.rd.fr hf (by omega)⟩, ?_, HW2.out.1.fr.trans hf (fun j hj h => absurd hj (by omega)), by rw [List.length_set]; exact HW2.out.1.len⟩⟩
            refine (blk_set HW2.out.1.blk i _).trans ?_
            simp [nums, List.map_set]
          have HN : Aside0 (∀ n ∈ ns.set i y, 0 ≤ n ∧ n ≤ 31) := ⟨fun n hn => by
            rcases List.mem_or_eq_of_mem_set hn with hn | rfl
            · exact HW2.out.2 n hn
            · exact hy31⟩
          clear d1 d2 HW2
          go_roundw
          case rel => exact ⟨i + 1, p1 + k, ns.set i y, by go_num, by omega, h3, HS.out, HREC.out, HN.out⟩
          case measure => simp [intOf]; omega
        · have K1 := Aside0.mk (rd_get_short wr g s p1 k HW.out.1.inf.rd (by omega) (by omega) (by omega))
          rw [bind_bad (get_bad h3)] at hrec
          subst hrec
          go_wp2_with fail
          refine K1.out.mono ?_
          rintro e w2 ⟨rfl, hd2⟩
          have HF2 := Aside0.mk (HW.out.1.fr.then_ (Fr.of_drawn hd2 _))
          clear hd2 HW K1 c1
          go_wp2_with fail
          repeat (rw [Exit.noGoto_ret])
          go_returns
          exact ⟨rfl, HF2.out⟩
      · have q1 : decide ((i : Int) < 3) = false := decide_eq_false (by omega)
        have q1n : decide (i < 3) = false := decide_eq_false hlt
        obtain rfl : i = 3 := by omega
        rw [Nat.sub_self, ownL] at hrec
        have HREC := Aside0.mk hrec
        clear hrec
        go_wp2_with fail
        go_meet
        exact ⟨p1, ns, hp1, HW.out.1, HREC.out, HW.out.2.2⟩
  case rest =>
    clear H1 HRES KI
    obtain ⟨p1, ns, hp1, HW⟩ := hcut
    obtain ⟨n0, n1, n2, rfl⟩ : ∃ n0 n1 n2, ns = [n0, n1, n2] := by
      match ns, HW.out.1.len with
      | [n0, n1, n2], _ => exact ⟨n0, n1, n2, rfl⟩
    have b0 := HW.out.2.2 n0 (by simp)
    have b1 := HW.out.2.2 n1 (by simp)
    have b2 := HW.out.2.2 n2 (by simp)
    obtain ⟨na, rfl⟩ := Int.eq_ofNat_of_zero_le b0.1
    obtain ⟨nb, rfl⟩ := Int.eq_ofNat_of_zero_le b1.1
    obtain ⟨nc, rfl⟩ := Int.eq_ofNat_of_zero_le b2.1
    have hrec := HW.out.2.1
    unfold ownRest at hrec
    simp only [List.getD_cons_zero, List.getD_cons_succ, Int.toNat_natCast] at hrec
    have d0 : wc.cell? ⟨a, 0, none⟩ = some (.int .i64 (na : Int)) := blk_cell HW.out.1.blk 0
    have d1 : wc.cell? ⟨a, 1, none⟩ = some (.int .i64 (nb : Int)) := blk_cell HW.out.1.blk 1
    have d2 : wc.cell? ⟨a, 2, none⟩ = some (.int .i64 (nc : Int)) := blk_cell HW.out.1.blk 2
    have HREC := Aside0.mk hrec
    have HM := Aside0.mk HW.out.1
    obtain ⟨near, hnear⟩ : ∃ near, near = na + 257 := ⟨_, rfl⟩
    obtain ⟨far, hfar⟩ : ∃ far, far = nb + 1 := ⟨_, rfl⟩
    have e0 : (na : Int) + 257 = (near : Int) := by omega
    have e1 : (nb : Int) + 1 = (far : Int) := by omega
    have HNF : Aside0 (near = na + 257 ∧ far = nb + 1) := ⟨hnear, hfar⟩
    clear hrec HW hnear hfar
    go_wp2_with fail
    go_big_region
    have HM1 := Aside0.mk (HM.out.inf.drawn (⟨1, rfl⟩ : Drawn0 wc wc.drew))
    have HF1 : Aside0 (Fr w wc.drew (SI B x g w)) := ⟨HM.out.fr.drew⟩
    have d2' : wc.drew.cell? ⟨a, 2, none⟩ = some (.int .i64 (nc : Int)) := d2
    clear d0 d1 d2 HM e0 e1
    generalize wc.drew = w2 at HM1 HF1 d2' ⊢
    by_cases hbad : 29 < na ∨ 29 < nb
    · have hr1 := HREC.out
      rw [if_pos (by omega)] at hr1
      unfold RM.err at hr1
      subst hr1
      by_cases hna : 286 < near
      · have q1 : decide (286 < (near : Int)) = true := decide_eq_true (by omega)
        have q1n : decide (286 < near) = true := decide_eq_true hna
        clear HREC hbad
        go_wp2_with fail
        go_returns
        exact ⟨rfl, HF1.out⟩
      · have q1 : decide (286 < (near : Int)) = false := decide_eq_false (by omega)
        have q1n : decide (286 < near) = false := decide_eq_false hna
        have hfb : 30 < far := by have := HNF.out; omega
        have q2 : decide (30 < (far : Int)) = true := decide_eq_true (by omega)
        have q2n : decide (30 < far) = true := decide_eq_true hfb
        clear HREC hbad
        go_wp2_with fail
        go_returns
        exact ⟨rfl, HF1.out⟩
    · have hr1 := HREC.out
      rw [if_neg (by omega)] at hr1
      have hnear : near ≤ 286 := by have := HNF.out; omega
      have hnear2 : 257 ≤ near := by have := HNF.out; omega
      have hfar : far ≤ 30 := by have := HNF.out; omega
      have hfar1 : 1 ≤ far := by have := HNF.out; omega
      rw [show na + nb + 258 = near + far by have := HNF.out; omega, show na + 257 = near from HNF.out.1.symm] at hr1
      have q1 : decide (286 < (near : Int)) = false := decide_eq_false (by omega)
      have q1n : decide (286 < near) = false := decide_eq_false (by omega)
      have q2 : decide (30 < (far : Int)) = false := decide_eq_false (by omega)
      have q2n : decide (30 < far) = false := decide_eq_false (by omega)
      obtain ⟨hd, hhd⟩ : ∃ hd, hd = nc + 4 := ⟨_, rfl⟩
      have e2 : (nc : Int) + 4 = (hd : Int) := by omega
      have hhd2 : hd ≤ 100 := by omega
      rw [← hhd] at hr1
      have KH := Aside0.mk (heads_calls w2 B x g hd s p1 o m HM1.out hs (Nat.le_trans hB HF1.out.size) hp1 hhd2)
      have HR1 := Aside0.mk hr1
      clear HREC hbad hr1 HNF hhd b0 b1 b2
      go_wp2_with fail
      refine KH.out.mono ?_
      rintro e w3 ⟨hl3, hf3⟩
      have HF3 := Aside0.mk (HF1.out.si hf3)
      cases hh : headsM hd s m p1 o with
      | bad c =>
        rw [hh] at hl3
        obtain rfl := hl3
        have hr2 := HR1.out
        rw [bind_bad hh] at hr2
        subst hr2
        have q4 : (c != 0) = true := by simpa using (NZ.heads hd).nz hh
        clear hf3 KH HR1 hh HM1 HF1 d2'
        go_wp2_with fail
        go_returns
        exact ⟨rfl, HF3.out⟩
      | ok l p2 o2 =>
        rw [hh] at hl3
        obtain ⟨ta, rfl, hT3, hml, hll, hi3⟩ := hl3
        have hr2 := HR1.out
        rw [bind_ok hh] at hr2
        have hg := (Good.heads hd).mono (s := s) (m := m) hp1 hh
        have ho2 := ((Good.heads hd).room (s := s) m hp1 hh ho ho).1
        have HI3 := Aside0.mk hi3
        have HT3 := Aside0.mk hT3
        have HML := Aside0.mk hml
        have hll2 : l.length ≤ 19 := by omega
        have hp2s := hg.2.1
        have HR2 := Aside0.mk hr2
        have e3 : (near : Int) + (far : Int) = ((near + far : Nat) : Int) := by omega
        clear hf3 KH HR1 hh HM1 HF1 d2' hT3 hml hll hi3 hr2 hg
        obtain ⟨mn, hmn⟩ : ∃ mn, mn = near + far := ⟨_, rfl⟩
        rw [← hmn] at e3 HR2
        have hmn2 : mn ≤ 320 := by omega
        have HMN := Aside0.mk hmn
        clear hmn
        have KW := Aside0.mk (row_calls w3 B w2.heap.size x g ta mn l s p2 o2 m HI3.out HT3.out HML.out hll2 hs (Nat.le_trans hB HF3.out.size) hp2s hmn2)
        go_wp2_with fail
        refine KW.out.mono ?_
        rintro e w4 ⟨hl4, hf4⟩
        have HF4 := Aside0.mk (HF3.out.si hf4)
        cases hh : rowM l mn 400 [] s m p2 o2 with
        | bad c =>
          rw [hh] at hl4
          obtain rfl := hl4
          have hr2 := HR2.out
          rw [bind_bad hh] at hr2
          subst hr2
          have q4 : (c != 0) = true := by simpa using (NZ.row l mn 400 []).nz hh
          clear hf4 KW HR2 hh HI3 HT3 HML HF3
          go_wp2_with fail
          go_returns
          exact ⟨rfl, HF4.out⟩
        | ok row p3 o3 =>
          rw [hh] at hl4
          obtain ⟨v4, rfl, hrw4, hi4⟩ := hl4
          have hr3 := HR2.out
          rw [bind_ok hh] at hr3
          obtain ⟨hrl, hrx, hp3, ho3⟩ := rowM_ok l (by omega) mn s m 400 [] p2 o2 row p3 o3 (by simp) (by simp) hp2s hh
          subst ho3
          have HI4 := Aside0.mk hi4
          have HRW4 := Aside0.mk hrw4
          obtain ⟨A4, c4, hv4, hrd4⟩ := hrw4.reads
          subst hv4
          have hc4 := (Row.kdC HRW4.out).2.1
          have hmnl : near + far = row.length := by rw [hrl]; exact HMN.out.symm
          obtain ⟨ad4, hA4, _⟩ := ReadsInt.at_ hrd4 ((256 : Nat) : Int) (by omega) (by omega)
          subst hA4
          obtain ⟨rg, hrg⟩ : ∃ rg, ad4 = ⟨rg, 0, none⟩ := by
            have h2 := hrw4.2
            rcases h2 with ⟨h2, _⟩ | ⟨g2, cap2, cur2, h2, _⟩
            · cases h2
            · injection h2 with h2 _ _
              injection h2 with h2
              exact ⟨g2, h2⟩
          subst hrg
          have HRD4 := Aside0.mk hrd4
          have HR3 := Aside0.mk hr3
          have HX4 := Aside0.mk hrx
          have HRL := Aside0.mk hmnl
          have hnle : near ≤ row.length := by omega
          have hnle2 : near ≤ c4 := by omega
          have h256 : 256 < row.length := by omega
          have hcne : ¬ c4 = near := by omega
          clear hf4 KW HR2 hh HI3 HT3 HML HF3 hrw4 hi4 hrd4 hr3 hrx hrl HMN hmnl
          go_wp2_with fail
          have htl : (row.take near).length = near := by rw [List.length_take]; omega
          have KC := check_calls (some ⟨rg, 0, none⟩) near c4 (row.take near) w4 htl.symm (reads_take HRD4.out near hnle) hnle2
          obtain ⟨ck, hck⟩ : ∃ ck, ck = chkF (row.take near) := ⟨_, rfl⟩
          rw [← hck] at KC
          have KC := Aside0.mk KC
          have HTL := Aside0.mk htl
          have HCK := Aside0.mk hck
          clear htl hck
          refine KC.out.mono ?_
          rintro e w5 ⟨rfl, hb5⟩
          have HI5 := Aside0.mk (HI4.out.below hb5)
          have HRW5 := Aside0.mk (HRW4.out.below hb5)
          have HRD5 := Aside0.mk (HRD4.out.below hb5)
          have HF5 := Aside0.mk (HF4.out.then_ (Fr.of_below hb5 _))
          clear hb5 KC HI4 HRW4 HRD4 HF4
          by_cases hc0 : ck = 0
          · subst hc0
            obtain ⟨y, hy⟩ : ∃ y, y = row.getD 256 0 := ⟨_, rfl⟩
            have dy : w5.cell? ⟨rg, 256, none⟩ = some (.int .i64 y) := by
              obtain ⟨ad', e, hc⟩ := HRD5.out.2.2 (by omega)
              injection e with e
              subst e
              have := hc 256 (by omega)
              rw [Addr.add_lit, Nat.zero_add] at this
              rw [this, hy]
            have HY := Aside0.mk hy
            clear hy
            by_cases hy0 : y = 0
            · subst hy0
              have hr4 := HR3.out
              rw [if_pos (.inr (.inl HY.out.symm))] at hr4
              unfold RM.err at hr4
              subst hr4
              go_wp2_with fail
              go_returns
              exact ⟨rfl, HF5.out⟩
            · have q5 : (y == 0) = false := beq_eq_false_iff_ne.2 hy0
              have hdl : (row.drop near).length = row.length - near := List.length_drop
              have RD := fun (W : World) (h : ReadsInt W .i64 (some ⟨rg, 0, none⟩) row.length row) => reads_drop h near hnle (fun j => by simp only [Addr.add_lit, Nat.zero_add])
              rw [show (⟨rg, 0, none⟩ : Addr).add near = ⟨rg, near, none⟩ by rw [Addr.add_lit, Nat.zero_add]] at RD
              have hfl : row.length - near ≤ 30 := by have := HRL.out; omega
              have hxd : ∀ x ∈ row.drop near, 0 ≤ x ∧ x ≤ 320 := fun x hx => HX4.out x (List.mem_of_mem_drop hx)
              have KQ := reaches_calls (some ⟨rg, near, none⟩) (c4 - near) (row.drop near) w5 (RD w5 HRD5.out) (by rw [hdl]; omega) hxd (by rw [hdl]; omega)
              rw [hdl] at KQ
              have KQ := Aside0.mk KQ
              have HDL := Aside0.mk hdl
              have HXD := Aside0.mk hxd
              have HRD := Aside0.mk RD
              clear hdl RD hxd
              obtain ⟨rb, hrb⟩ : ∃ rb, rb = reachB (row.drop near) := ⟨_, rfl⟩
              rw [← hrb] at KQ
              have HRB := Aside0.mk hrb
              clear hrb
              go_wp2_with fail
              refine KQ.out.mono ?_
              rintro e w6 ⟨rfl, hb6⟩
              have HI6 := Aside0.mk (HI5.out.below hb6)
              have HRD6 := Aside0.mk (HRD5.out.below hb6)
              have HF6 := Aside0.mk (HF5.out.then_ (Fr.of_below hb6 _))
              clear hb6 KQ HI5 HRW5 HRD5 HF5 dy
              cases rb with
              | false =>
                have hr4 := HR3.out
                rw [if_pos (.inr (.inr HRB.out.symm))] at hr4
                unfold RM.err at hr4
                subst hr4
                go_wp2_with fail
                go_returns
                exact ⟨rfl, HF6.out⟩
              | true =>
                have hr4 := HR3.out
                rw [if_neg (by rintro (h | h | h); exact h HCK.out.symm; exact hy0 (HY.out.trans h); rw [← HRB.out] at h; cases h)] at hr4
                have hmN : mayF (row.take near) = 0 := chk_may HCK.out.symm
                have hmF : mayF (row.drop near) = 0 := reach_may HRB.out.symm (fun x hx => (HXD.out x hx).1) (by rw [HDL.out]; omega)
                have K1 := new_ok (some ⟨rg, 0, none⟩) c4 (row.take near) w6 (reads_take HRD6.out near hnle) (by rw [HTL.out]; exact hnle2) hmN
                rw [HTL.out] at K1
                have K2 := fun (W : World) (h : Below w6.heap.size w6 W) => new_ok (some ⟨rg, near, none⟩) (c4 - near) (row.drop near) W (HRD.out W (HRD6.out.below h)) (by rw [HDL.out]; omega) hmF
                rw [HDL.out] at K2
                have K1 := Aside0.mk K1
                have K2 := Aside0.mk K2
                have HR4 := Aside0.mk hr4
                have HMM : Aside0 (_ ∧ _) := ⟨hmN, hmF⟩
                clear hr4 hmN hmF HR3 HCK HY hy0 q5 HRB
                go_wp2_with fail
                refine K1.out.mono ?_
                rintro e w7 ⟨tn, rfl, hT7, htn, hb7⟩
                have HI7 := Aside0.mk (HI6.out.below hb7)
                have HT7 : Aside0 (Tr w7 w6.heap.size tn (row.take near)) := ⟨hT7⟩
                have HB7 := Aside0.mk hb7
                clear hT7 htn hb7 K1 HI6
                go_wp2_with fail
                refine (K2.out w7 HB7.out).mono ?_
                rintro e w8 ⟨tf, rfl, hT8, htf, hb8⟩
                have HI8 := Aside0.mk (HI7.out.below hb8)
                have HT8 : Aside0 (Tr w8 w6.heap.size tn (row.take near) ∧ Tr w8 w7.heap.size tf (row.drop near)) := ⟨TreeAt.below HT7.out hb8, hT8⟩
                have HF8 := Aside0.mk (HF6.out.then_ (Fr.of_below (HB7.out.trans (hb8.mono HB7.out.size)) _))
                clear hT8 htf hb8 K2 HI7 HT7 HB7 HF6
                go_wp2_with fail
                refine (coded_calls w8 B w6.heap.size w7.heap.size x g tn tf (row.take near) (row.drop near) s p3 o3 m bigK HI8.out HT8.out.1 HT8.out.2 HMM.out.1 HMM.out.2 hs (Nat.le_trans hB HF8.out.size) hm0 hm ho2 hp3 (by unfold bigK; omega)).mono ?_
                rintro e w9 ⟨hl9, hf9⟩
                have HF9 := Aside0.mk (HF8.out.si hf9)
                cases hh : codedM (row.take near) (row.drop near) bigK s m p3 o3 with
                | bad c =>
                  rw [hh] at hl9
                  obtain rfl := hl9
                  have hr5 := HR4.out
                  rw [hh] at hr5
                  subst hr5
                  go_wp2_with fail
                  go_returns
                  exact ⟨rfl, HF9.out⟩
                | ok u q r =>
                  rw [hh] at hl9
                  obtain ⟨rfl, hi9⟩ := hl9
                  have hr5 := HR4.out
                  rw [hh] at hr5
                  subst hr5
                  go_wp2_with fail
                  go_returns
                  exact ⟨⟨rfl, hi9⟩, HF9.out⟩
          · have q5 : (ck != 0) = true := by simpa using hc0
            have hr4 := HR3.out
            rw [if_pos (.inl (by rw [← HCK.out]; exact hc0))] at hr4
            unfold RM.err at hr4
            subst hr4
            go_wp2_with fail
            go_returns
            exact ⟨rfl, HF5.out⟩
end Go.Proofs.Ytfoicjlkbkjfjaa.Hand
