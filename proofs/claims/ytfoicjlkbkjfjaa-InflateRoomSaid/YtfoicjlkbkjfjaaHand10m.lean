/- Inflate: block, Inflate; walked by hand. Inflate: Inflate; walked by hand. -/
import Derived.Test.YtfoicjlkbkjfjaaHand10k
namespace Go.Proofs.Ytfoicjlkbkjfjaa.Hand
open Go.RowKit Go.Proofs.YtfoicjlkbkjfjaaW.PrintWords Go.Proofs.YtfoicjlkbkjfjaaW.PrintLast Go.Proofs.YtfoicjlkbkjfjaaW.PrintMore Go.Proofs.Ytfoicjlkbkjfjaa.Num Go.Proofs.Ytfoicjlkbkjfjaa.Bits
set_option linter.unusedVariables false
set_option linter.unusedSimpArgs false
def BkLeft (r : Res Int) (w' : World) (B x g : Nat) (s : ByteArray) (m : Int) (e : Ending) : Prop := match r with
  | .bad c => ∃ b, e = .returned (.tuple #[.bool b, .int .i64 c])
  | .ok last q r => e = .returned (.tuple #[.bool (last == 1), .int .i64 0]) ∧ InfAt w' B x g s q r m
def KdLeft (r : Res Unit) (er : Int) (w' : World) (B x g : Nat) (s : ByteArray) (m : Int) : Prop := match r with
  | .bad c => er = c
  | .ok _ q r => er = 0 ∧ InfAt w' B x g s q r m
/-- A block's body, by its kind. -/
def kindM (kind : Int) : RM Unit := if kind = 0 then storedM else if kind = 1 then codedM fixLit fixDist bigK else if kind = 2 then ownM else RM.err 4
theorem Good.kind (k : Int) : Good (kindM k) := Good.ite Good.stored (Good.ite (Good.coded _ _ _) (Good.ite Good.own (Good.err _)))
theorem NZ.kind (k : Int) : NZ (kindM k) := NZ.ite NZ.stored (NZ.ite (NZ.coded _ _ _) (NZ.ite NZ.own (NZ.err _ (by decide))))
set_option maxRecDepth 100000 in
set_option maxHeartbeats 4000000 in
theorem block_calls (w : World) (B x g : Nat) (s : ByteArray) (p : Nat) (o : List Int) (m : Int) (h : InfAt w B x g s p o m) (hs : s.size ≤ 1000000) (hB : B ≤ w.heap.size) (hm0 : 0 ≤ m) (hm : m ≤ 10000000) (ho : (o.length : Int) ≤ m) (hp : p ≤ 8 * s.size) :
    Calls Try.prog 39 #[.pointer (some ⟨x, 0, none⟩)] w fun e w' => BkLeft (blockM s m p o) w' B x g s m e ∧ Fr w w' (SI B x g w) := by
  obtain ⟨res, hres⟩ : ∃ res, res = blockM s m p o := ⟨_, rfl⟩
  rw [← hres]
  rw [show blockM = (getM 1).bind fun last => (getM 2).bind fun kind => (kindM kind).bind fun _ => RM.ret last from rfl] at hres
  have H0 := Aside0.mk h
  obtain ⟨v0, hb0, _⟩ := h.blk
  have c0 : w.cell? ⟨x, 0, none⟩ = some (.pointer (some ⟨g, 0, none⟩)) := blk_cell hb0 0
  have HRES := Aside0.mk hres
  clear hb0 h hres
  by_cases h1 : p + 1 ≤ 8 * s.size
  · have hr1 := HRES.out
    rw [bind_ok (get_ok h1)] at hr1
    have K1 := rd_get w g s p 1 H0.out.rd (by omega) (by omega) h1
    rw [show ((1 : Nat) : Int) = 1 from rfl] at K1
    obtain ⟨last, hlast⟩ : ∃ last, last = val s p 1 := ⟨_, rfl⟩
    rw [← hlast] at K1 hr1
    have K1 := Aside0.mk K1
    have HR1 := Aside0.mk hr1
    clear hlast hr1 HRES
    go_enter Try.func39, Try.ntmps39
    go_wp2_with fail
    refine K1.out.mono ?_
    rintro e w2 ⟨rfl, h2, f2⟩
    have HI2 := Aside0.mk (H0.out.read h2 f2)
    have HF2 : Aside0 (Fr w w2 (SI B x g w)) := ⟨f2.siR⟩
    clear h2 f2 K1 H0 c0
    obtain ⟨v2, hb2, _⟩ := HI2.out.blk
    have c2 : w2.cell? ⟨x, 0, none⟩ = some (.pointer (some ⟨g, 0, none⟩)) := blk_cell hb2 0
    clear hb2
    obtain ⟨p2, hp2⟩ : ∃ p2, p2 = p + 1 := ⟨_, rfl⟩
    rw [← hp2] at HI2 HR1 h1
    by_cases h2 : p2 + 2 ≤ 8 * s.size
    · have hr2 := HR1.out
      rw [bind_ok (get_ok h2)] at hr2
      have K2 := rd_get w2 g s p2 2 HI2.out.rd (by omega) (by omega) h2
      rw [show ((2 : Nat) : Int) = 2 from rfl] at K2
      have hv := val_range s p2 2
      obtain ⟨kd, hkd⟩ := Int.eq_ofNat_of_zero_le hv.1
      rw [hkd] at K2 hr2
      have K2 := Aside0.mk K2
      have HR2 := Aside0.mk hr2
      clear hr2 HR1 hv hkd
      go_wp2_with fail
      refine K2.out.mono ?_
      rintro e w3 ⟨rfl, h3, f3⟩
      have HI3 := Aside0.mk (HI2.out.read h3 f3)
      have HF3 := Aside0.mk (HF2.out.si f3.siR)
      clear h3 f3 K2 HI2 HF2 c2
      have hB3 : B ≤ w3.heap.size := Nat.le_trans hB HF3.out.size
      go_upto_block 0 with fail
      obtain ⟨kr, hkr⟩ : ∃ kr, kr = kindM kd s m (p2 + 2) o := ⟨_, rfl⟩
      have HKR := Aside0.mk hkr
      clear hkr
      go_cut [5] (fun v5 wc => ∃ er : Int, v5 = .int .i64 er ∧ Aside0 (KdLeft kr er wc B x g s m ∧ Fr w wc (SI B x g w)))
      case first =>
        by_cases k0 : kd = 0
        · subst k0
          have KS := Aside0.mk (stored_calls w3 B x g s (p2 + 2) o m HI3.out hs hB3 hm0 hm ho h2)
          have HK2 : Aside0 (kr = storedM s m (p2 + 2) o) := HKR
          go_wp2_with fail
          refine KS.out.mono ?_
          rintro e w4 ⟨hl4, hf4⟩
          have HF4 := Aside0.mk (HF3.out.si hf4)
          cases hh : storedM s m (p2 + 2) o with
          | bad c =>
            rw [hh] at hl4
            obtain rfl := hl4
            go_wp2_with fail
            go_meet
            exact ⟨c, rfl, by rw [HK2.out, hh]; exact ⟨rfl, HF4.out⟩⟩
          | ok u q r =>
            rw [hh] at hl4
            obtain ⟨rfl, hi4⟩ := hl4
            go_wp2_with fail
            go_meet
            exact ⟨0, rfl, by rw [HK2.out, hh]; exact ⟨⟨rfl, hi4⟩, HF4.out⟩⟩
        · have q1 : ((kd : Int) == 0) = false := beq_eq_false_iff_ne.2 (by omega)
          have q1n : (kd == 0) = false := beq_eq_false_iff_ne.2 k0
          by_cases k1 : kd = 1
          · subst k1
            have KS := Aside0.mk (fixed_calls w3 B x g s (p2 + 2) o m bigK HI3.out hs hB3 hm0 hm ho h2 (by unfold bigK; omega))
            have HK2 : Aside0 (kr = codedM fixLit fixDist bigK s m (p2 + 2) o) := HKR
            go_wp2_with fail
            refine KS.out.mono ?_
            rintro e w4 ⟨hl4, hf4⟩
            have HF4 := Aside0.mk (HF3.out.si hf4)
            cases hh : codedM fixLit fixDist bigK s m (p2 + 2) o with
            | bad c =>
              rw [hh] at hl4
              obtain rfl := hl4
              go_wp2_with fail
              go_meet
              exact ⟨c, rfl, by rw [HK2.out, hh]; exact ⟨rfl, HF4.out⟩⟩
            | ok u q r =>
              rw [hh] at hl4
              obtain ⟨rfl, hi4⟩ := hl4
              go_wp2_with fail
              go_meet
              exact ⟨0, rfl, by rw [HK2.out, hh]; exact ⟨⟨rfl, hi4⟩, HF4.out⟩⟩
          · have q2 : ((kd : Int) == 1) = false := beq_eq_false_iff_ne.2 (by omega)
            have q2n : (kd == 1) = false := beq_eq_false_iff_ne.2 k1
            by_cases k2 : kd = 2
            · subst k2
              have KS := Aside0.mk (own_calls w3 B x g s (p2 + 2) o m HI3.out hs hB3 hm0 hm ho h2)
              have HK2 : Aside0 (kr = ownM s m (p2 + 2) o) := HKR
              go_wp2_with fail
              refine KS.out.mono ?_
              rintro e w4 ⟨hl4, hf4⟩
              have HF4 := Aside0.mk (HF3.out.si hf4)
              cases hh : ownM s m (p2 + 2) o with
              | bad c =>
                rw [hh] at hl4
                obtain rfl := hl4
                go_wp2_with fail
                go_meet
                exact ⟨c, rfl, by rw [HK2.out, hh]; exact ⟨rfl, HF4.out⟩⟩
              | ok u q r =>
                rw [hh] at hl4
                obtain ⟨rfl, hi4⟩ := hl4
                go_wp2_with fail
                go_meet
                exact ⟨0, rfl, by rw [HK2.out, hh]; exact ⟨⟨rfl, hi4⟩, HF4.out⟩⟩
            · have q3 : ((kd : Int) == 2) = false := beq_eq_false_iff_ne.2 (by omega)
              have q3n : (kd == 2) = false := beq_eq_false_iff_ne.2 k2
              have hk : kindM (kd : Int) = RM.err 4 := by unfold kindM; rw [if_neg (by omega), if_neg (by omega), if_neg (by omega)]
              have HK2 : Aside0 (kr = .bad 4) := ⟨by rw [HKR.out, hk]; rfl⟩
              clear hk
              go_wp2_with fail
              go_meet
              exact ⟨4, rfl, by rw [HK2.out]; exact ⟨rfl, HF3.out⟩⟩
      case rest =>
        clear HI3 HF3
        obtain ⟨er, rfl, HC⟩ := hcut
        go_wp2_with fail
        go_returns
        have hr3 := HR2.out
        cases hh : kindM kd s m (p2 + 2) o with
        | bad c =>
          rw [bind_bad hh] at hr3
          have hc := HC.out
          rw [HKR.out, hh] at hc
          obtain ⟨hc1, hf⟩ := hc
          obtain rfl := hc1
          subst hr3
          exact ⟨⟨_, rfl⟩, hf⟩
        | ok u q r =>
          rw [bind_ok hh] at hr3
          have hc := HC.out
          rw [HKR.out, hh] at hc
          obtain ⟨⟨rfl, hi⟩, hf⟩ := hc
          unfold RM.ret at hr3
          subst hr3
          exact ⟨⟨rfl, hi⟩, hf⟩
    · have hr2 := HR1.out
      rw [bind_bad (get_bad h2)] at hr2
      have K2 := rd_get_short w2 g s p2 2 HI2.out.rd (by omega) (by omega) (by omega)
      rw [show ((2 : Nat) : Int) = 2 from rfl] at K2
      have K2 := Aside0.mk K2
      subst hr2
      go_wp2_with fail
      refine K2.out.mono ?_
      rintro e w3 ⟨rfl, hd3⟩
      have HF3 := Aside0.mk (HF2.out.then_ (Fr.of_drawn hd3 _))
      clear hd3 K2 HI2 HF2 c2
      go_wp2_with fail
      go_returns
      exact ⟨⟨_, rfl⟩, HF3.out⟩
  · have hr1 := HRES.out
    rw [bind_bad (get_bad h1)] at hr1
    have K1 := rd_get_short w g s p 1 H0.out.rd (by omega) (by omega) (by omega)
    rw [show ((1 : Nat) : Int) = 1 from rfl] at K1
    have K1 := Aside0.mk K1
    subst hr1
    go_enter Try.func39, Try.ntmps39
    go_wp2_with fail
    refine K1.out.mono ?_
    rintro e w3 ⟨rfl, hd3⟩
    have HF3 : Aside0 (Fr w w3 (SI B x g w)) := ⟨Fr.of_drawn hd3 _⟩
    clear hd3 K1 c0
    go_wp2_with fail
    go_returns
    exact ⟨⟨_, rfl⟩, HF3.out⟩
end Go.Proofs.Ytfoicjlkbkjfjaa.Hand
namespace Go.Proofs.Ytfoicjlkbkjfjaa.Hand
open Go.RowKit Go.Proofs.YtfoicjlkbkjfjaaW.PrintWords Go.Proofs.YtfoicjlkbkjfjaaW.PrintLast Go.Proofs.YtfoicjlkbkjfjaaW.PrintMore Go.Proofs.Ytfoicjlkbkjfjaa.Num Go.Proofs.Ytfoicjlkbkjfjaa.Bits
set_option linter.unusedVariables false
set_option linter.unusedSimpArgs false
def InfOut (r : Res Unit) : ByteArray × Int × Int := match r with
  | .bad e => (⟨#[]⟩, 0, e)
  | .ok _ p o => (strOfNums o, (rdAt p : Int), 0)
set_option maxRecDepth 100000 in
set_option maxHeartbeats 4000000 in
theorem inflate_calls (w : World) (s : ByteArray) (m : Int) (hs : s.size ≤ 1000000) (hm : m ≤ 10000000) :
    Calls Try.prog 18 #[.string s, .int .i64 m] w fun e w' => e = .returned (.tuple #[.string (inflF s m).1, .int .i64 (inflF s m).2.1, .int .i64 (inflF s m).2.2]) ∧ Below w.heap.size w w' := by
  by_cases hm0 : m < 0
  · have q1 : decide (m < 0) = true := decide_eq_true hm0
    have e1 : inflF s m = (⟨#[]⟩, 0, 2) := by unfold inflF; rw [if_pos hm0]
    rw [e1]
    clear hm0 e1
    go_enter Try.func18, Try.ntmps18
    go_wp2_with fail
    go_returns
    exact ⟨rfl, Below.refl _ _⟩
  · have q1 : decide (m < 0) = false := decide_eq_false hm0
    obtain ⟨K, hK⟩ : ∃ K, K = bigK := ⟨_, rfl⟩
    have hK1 : 8 * s.size < K := by rw [hK]; unfold bigK; omega
    obtain ⟨res, hres⟩ : ∃ res, res = infM K s m 0 [] := ⟨_, rfl⟩
    have e1 : inflF s m = InfOut res := by unfold inflF InfOut; rw [if_neg hm0, hres, hK]; rfl
    rw [e1]
    have HRES := Aside0.mk hres
    have hm1 : 0 ≤ m := by omega
    clear hK hres e1 hm0
    go_enter Try.func18, Try.ntmps18
    go_wp2_with fail
    refine (rd_new s w).mono ?_
    rintro e w1 ⟨rfl, h1, hb1⟩
    obtain ⟨g, hg⟩ : ∃ g, g = w.heap.size := ⟨_, rfl⟩
    obtain ⟨x, hx⟩ : ∃ x, x = w1.heap.size := ⟨_, rfl⟩
    have hbx := below_alloc (Below.refl w1.heap.size w1) (.cells #[.pointer (some ⟨w.heap.size, 0, none⟩), .slice none 0 0, .int .i64 m] 70)
    have H1 : Aside0 (InfAt (w1.alloc (.cells #[.pointer (some ⟨w.heap.size, 0, none⟩), .slice none 0 0, .int .i64 m] 70)) w.heap.size w1.heap.size w.heap.size s 0 [] m ∧ Below w.heap.size w (w1.alloc (.cells #[.pointer (some ⟨w.heap.size, 0, none⟩), .slice none 0 0, .int .i64 m] 70))) :=
      ⟨⟨⟨_, heap_alloc_new w1 _, Row.nil _ _ _ _⟩, ⟨blk_below h1.blk hbx, h1.le⟩⟩, hb1.trans (hbx.mono hb1.size)⟩
    have hgx : w.heap.size ≤ g ∧ w.heap.size ≤ x := by have := hb1.size; omega
    have HGX := Aside0.mk hgx
    have HG := Aside0.mk hg
    go_wp2_with fail
    rw [← hg, ← hx] at H1 ⊢
    clear h1 hbx hb1 hgx hx hg
    generalize World.alloc w1 _ = W1 at H1 ⊢
    go_loopg [] K (fun kq wr => ∃ (p1 : Nat) (o1 : List Int), p1 ≤ 8 * s.size ∧ 8 * s.size < p1 + kq ∧ (o1.length : Int) ≤ m ∧ Aside0 (InfAt wr g x g s p1 o1 m ∧ Below w.heap.size w wr ∧ res = infM kq s m p1 o1))
    case atStart => exact ⟨0, [], by omega, by omega, by simpa using hm1, H1.out.1, by rw [← HG.out]; exact H1.out.2, HRES.out⟩
    case round =>
      clear H1 HRES
      obtain ⟨p1, o1, hp1, hk1, ho1, HW⟩ := hrel
      cases gk with
      | zero => exact absurd hk1 (by omega)
      | succ k1 =>
        have hrec := HW.out.2.2
        rw [infM] at hrec
        have hgw : g ≤ wr.heap.size := by rw [HG.out]; exact HW.out.2.1.size
        have KB := Aside0.mk (block_calls wr g x g s p1 o1 m HW.out.1 hs hgw hm1 hm ho1 hp1)
        have HREC := Aside0.mk hrec
        clear hrec
        go_wp2_with fail
        refine KB.out.mono ?_
        rintro e w2 ⟨hl2, hf2⟩
        have HB2 := Aside0.mk (HW.out.2.1.trans (hf2.siBelow HGX.out.2 HGX.out.1 HGX.out.1 HW.out.2.1.size))
        cases hh : blockM s m p1 o1 with
        | bad c =>
          rw [hh] at hl2
          obtain ⟨b, rfl⟩ := hl2
          have hr2 := HREC.out
          rw [bind_bad hh] at hr2
          subst hr2
          have q2 : (c != 0) = true := by simpa using NZ.block.nz hh
          clear hf2 KB HREC hh HW
          go_wp2_with fail
          repeat (rw [Exit.noGoto_ret])
          go_returns
          exact ⟨rfl, HB2.out⟩
        | ok last p2 o2 =>
          rw [hh] at hl2
          obtain ⟨rfl, hi2⟩ := hl2
          have hr2 := HREC.out
          rw [bind_ok hh] at hr2
          have hgm := Good.block.mono (s := s) (m := m) hp1 hh
          have hgr := (Good.block.room (s := s) m hp1 hh ho1 ho1).1
          have hadv : p1 + 1 ≤ p2 := by
            have hh2 := hh
            unfold blockM at hh2
            by_cases h1 : p1 + 1 ≤ 8 * s.size
            · rw [bind_ok (get_ok h1)] at hh2
              have hG : Good ((getM 2).bind fun kind => (kindM kind).bind fun _ => RM.ret (val s p1 1)) := (Good.get _).bind fun _ => (Good.kind _).bind fun _ => Good.ret _
              exact (hG.mono h1 hh2).1
            · rw [bind_bad (get_bad h1)] at hh2; cases hh2
          have HI2 := Aside0.mk hi2
          have HREC2 := Aside0.mk hr2
          clear hf2 KB HREC hh HW hi2 hr2
          by_cases hl : last = 1
          · have q2 : (last == 1) = true := beq_iff_eq.2 hl
            have hr3 := HREC2.out
            rw [if_pos hl] at hr3
            unfold RM.ret at hr3
            have HR3 := Aside0.mk hr3
            have hp2s := hgm.2.1
            clear hl hr3 HREC2 hgm hadv
            obtain ⟨v2, hb2, hr2⟩ := HI2.out.blk
            obtain ⟨A2, n2, k2, hv2, hn2⟩ := hr2.shape
            subst hv2
            have c0 : w2.cell? ⟨x, 0, none⟩ = some (.pointer (some ⟨g, 0, none⟩)) := blk_cell hb2 0
            have c1 : w2.cell? ⟨x, 1, none⟩ = some (.slice A2 n2 k2) := blk_cell hb2 1
            have HS := Aside0.mk (fun (W : World) (h : Drawn0 w2 W) => (show Row W g 5 .u8 (.slice A2 n2 k2) o2 by obtain ⟨n, rfl⟩ := h.out; exact hr2).str (P := Try.prog) (src := 25) (dst := 9) Try.underlying25 Try.underlying5 Try.underlying9)
            have KA := Aside0.mk (fun (W : World) (h : Drawn0 w2 W) => rd_at W g s p2 (HI2.out.rd.drawn h) (by omega))
            obtain ⟨st, hst⟩ : ∃ st, st = strOfNums o2 := ⟨_, rfl⟩
            rw [← hst] at HS
            have HST := Aside0.mk hst
            clear hst hb2 hr2 hn2
            have k0 := HS.out w2.drew ⟨1, rfl⟩
            have HD : Aside0 (∀ W, Drawn0 w2.drew W → Drawn0 w2 W) := ⟨fun W h => by obtain ⟨n, rfl⟩ := h.out; exact Drawn0.step (w' := w2.drewN 1) ⟨⟨1, rfl⟩⟩ n⟩
            have e1 : Int.tdiv ((p2 : Int) + 7) 8 = ((rdAt p2 : Nat) : Int) := by rw [td _ (by omega)]; unfold rdAt; omega
            go_wp2_with fail
            go_region_held3 (fun w' => w'.cell? ⟨x, 0, none⟩ = some (.pointer (some ⟨g, 0, none⟩)) ∧ w'.cell? ⟨x, 1, none⟩ = some (.slice A2 n2 k2) ∧ (convert 25 9 (.slice A2 n2 k2)).run Try.prog w' = .ok (.string st) w') (first | exact ⟨c0, c1, k0⟩ | exact ⟨e2, e3, e4⟩) ((go_at_call 40; refine (KA.out _ ⟨1, rfl⟩).mono ?_; rintro e w3 ⟨rfl, hd3⟩; have hd4 : Drawn0 w2 w3 := HD.out _ hd3; have e2 : w3.cell? ⟨x, 0, none⟩ = some (.pointer (some ⟨g, 0, none⟩)) := (by obtain ⟨n, rfl⟩ := hd4.out; exact c0); have e3 : w3.cell? ⟨x, 1, none⟩ = some (.slice A2 n2 k2) := (by obtain ⟨n, rfl⟩ := hd4.out; exact c1); have e4 := HS.out w3 hd4))
            go_wp2_with fail
            repeat (rw [Exit.noGoto_ret])
            go_returns
            have hw : IntKind.i64.wrap ((IntKind.i64.wrap ((p2 : Int) + 7)).tdiv 8) = ((rdAt p2 : Nat) : Int) := by
              rw [IntWalk.i64_in ((p2 : Int) + 7) (by omega), e1, IntWalk.i64_in _ (by unfold rdAt; omega)]
            have hB3 : Below w.heap.size w w3 := by obtain ⟨n, rfl⟩ := hd4.out; exact pw_below_drewN HB2.out n
            refine ⟨?_, hB3⟩
            have hr : InfOut res = (st, ((rdAt p2 : Nat) : Int), 0) := by rw [HR3.out]; unfold InfOut; rw [HST.out]
            rw [hr, ← hw]
            rfl
          · have q2 : (last == 1) = false := beq_eq_false_iff_ne.2 hl
            have hr3 := HREC2.out
            rw [if_neg hl] at hr3
            have HR3 := Aside0.mk hr3
            clear hl hr3 HREC2
            go_wp2_with fail
            go_roundg k1
            case measure => omega
            case rel => exact ⟨p2, o2, hgm.2.1, by omega, hgr, HI2.out, HB2.out, HR3.out⟩
/-- In the print's own form. -/
def inflate_Inflate.f (a0 : ByteArray) (a1 : Int) : Option (ByteArray × Int × Int) := if a0.size ≤ 1000000 ∧ a1 ≤ 10000000 then some (inflF a0 a1) else none
theorem inflate_Inflate.calls (a0 : ByteArray) (a1 : Int) (r1 : ByteArray) (r2 : Int) (r3 : Int) (w : World) (h : inflate_Inflate.f a0 a1 = some (r1, r2, r3)) :
    Calls Try.prog 18 #[.string a0, .int .i64 a1] w fun e w' => e = .returned (.tuple #[.string r1, .int .i64 r2, .int .i64 r3]) ∧ Below w.heap.size w w' := by
  unfold inflate_Inflate.f at h
  split at h
  · rename_i hc
    injection h with h
    have hh := inflate_calls w a0 a1 hc.1 hc.2
    rw [h] at hh
    exact hh
  · cases h
end Go.Proofs.Ytfoicjlkbkjfjaa.Hand
