/- Inflate: row; walked by hand. Inflate: reaches, own; walked by hand. Inflate: own; walked by hand. Inflate: block, Inflate; walked by hand. Inflate: Inflate; walked by hand. Inflate: the page's examples; what the laws ask of inflF. -/
import Derived.Test.YtghoifkaikddlaaGreatHand10h
import Derived.Test.YtghoifkaikddlaaGreatLem09
namespace Go.Proofs.YtghoifkaikddlaaGreat.Hand
open Go.RowKit Go.Proofs.YtghoifkaikddlaaGreatW.PrintWords Go.Proofs.YtghoifkaikddlaaGreatW.PrintLast Go.Proofs.YtghoifkaikddlaaGreatW.PrintMore Go.Proofs.YtghoifkaikddlaaGreat.Num Go.Proofs.YtghoifkaikddlaaGreat.Bits
set_option linter.unusedVariables false
set_option linter.unusedSimpArgs false
def RwLeft (r : Res (List Int)) (D : Nat) (w' : World) (B x g : Nat) (s : ByteArray) (m : Int) (e : Ending) : Prop := match r with
  | .bad c => e = .returned (.tuple #[.slice none 0 0, .int .i64 c])
  | .ok row q r => ∃ v, e = .returned (.tuple #[v, .int .i64 0]) ∧ Row w' D 3 .i64 v row ∧ InfAt w' B x g s q r m
structure RwMid (w W : World) (B x g mb cb many : Nat) (s : ByteArray) (p : Nat) (o : List Int) (m : Int) (v : Value) (row : List Int) : Prop where
  inf : InfAt W B x g s p o m
  fill : FillAt W mb cb many v row
  fr : Fr w W (SI B x g w)
theorem RwMid.below {w W W' : World} {B x g mb cb many : Nat} {s : ByteArray} {p : Nat} {o : List Int} {m : Int} {v : Value} {row : List Int} (h : RwMid w W B x g mb cb many s p o m v row) (hb : Below W.heap.size W W') : RwMid w W' B x g mb cb many s p o m v row :=
  ⟨h.inf.below hb, h.fill.below hb, h.fr.then_ (Fr.of_below hb _)⟩
theorem RwMid.read {w W W' : World} {B x g mb cb many : Nat} {s : ByteArray} {p q : Nat} {o : List Int} {m : Int} {v : Value} {row : List Int} (h : RwMid w W B x g mb cb many s p o m v row) (k : RdAt W' g s q) (hf : Fr W W' (· = g)) : RwMid w W' B x g mb cb many s q o m v row :=
  ⟨h.inf.read k hf, h.fill.frI h.inf hf.siR, h.fr.si hf.siR⟩
theorem RwMid.inf_ {w W W' : World} {B x g mb cb many : Nat} {s : ByteArray} {p q : Nat} {o o' : List Int} {m : Int} {v : Value} {row : List Int} (h : RwMid w W B x g mb cb many s p o m v row) (k : InfAt W' B x g s q o' m) (hf : Fr W W' (SI B x g W)) : RwMid w W' B x g mb cb many s q o' m v row :=
  ⟨k, h.fill.frI h.inf hf, h.fr.si hf⟩
theorem RwMid.put {w W W' : World} {B x g mb cb many : Nat} {s : ByteArray} {p : Nat} {o : List Int} {m : Int} {v v' : Value} {row row' : List Int} (h : RwMid w W B x g mb cb many s p o m v row) (k : FillAt W' mb cb many v' row') (hf : Fr W W' (SP mb cb W)) (hm : w.heap.size ≤ mb) (hc : w.heap.size ≤ cb) : RwMid w W' B x g mb cb many s p o m v' row' :=
  ⟨h.inf.frP ⟨v, h.fill.cblk⟩ hf, k, h.fr.trans hf (fun j hj hs => by rcases hs with h1 | ⟨h1, _⟩ <;> omega)⟩
theorem RwMid.span {w W W' : World} {B x g mb cb many z : Nat} {s : ByteArray} {p : Nat} {o : List Int} {m : Int} {v : Value} {row : List Int} {cs : Array Value} (h : RwMid w W B x g mb cb many s p o m v row) (hz : W.heap[z]? = some (.cells cs 214 (0, 0))) (hw : w.heap.size ≤ z) (hf : Fr W W' (· = z)) : RwMid w W' B x g mb cb many s p o m v row := by
  have key : ∀ {k : Nat} {c2 : Array Value} {t : TypeId}, W.heap[k]? = some (.cells c2 t (0, 0)) → t ≠ 214 → ¬ k = z := fun hk ht he => by
    subst he
    rw [hk] at hz; injection hz with hz; injection hz with _ hz; exact ht hz
  obtain ⟨u, hx, hr⟩ := h.inf.blk
  refine ⟨⟨⟨u, hf.blk hx (key hx (by decide)), hr.fr hf (fun j hj => by obtain ⟨c, hc⟩ := hr.blk j hj; exact key hc (by decide))⟩, h.inf.rd.fr hf (key h.inf.rd.blk (by decide))⟩, ⟨hf.blk h.fill.mblk (key h.fill.mblk (by decide)), hf.blk h.fill.cblk (key h.fill.cblk (by decide)), h.fill.row.fr hf (fun j hj => by obtain ⟨c, hc⟩ := h.fill.row.blk j hj; exact key hc (by decide))⟩, h.fr.trans hf (fun j hj he => absurd hj (by omega))⟩
theorem RwMid.drawn {w W W' : World} {B x g mb cb many : Nat} {s : ByteArray} {p : Nat} {o : List Int} {m : Int} {v : Value} {row : List Int} (h : RwMid w W B x g mb cb many s p o m v row) (hd : Drawn0 W W') : RwMid w W' B x g mb cb many s p o m v row :=
  ⟨h.inf.drawn hd, h.fill.drawn hd, h.fr.then_ (Fr.of_drawn hd _)⟩
set_option maxRecDepth 100000 in
set_option maxHeartbeats 4000000 in
theorem row_calls (w : World) (B B1 x g ta many : Nat) (l : List Int) (s : ByteArray) (p : Nat) (o : List Int) (m : Int) (h : InfAt w B x g s p o m) (hT : Tr w B1 ta l) (hml : mayF l = 0) (hll : l.length ≤ 19) (hs : s.size ≤ 1000000) (hB : B ≤ w.heap.size) (hp : p ≤ 8 * s.size) (hmany : many ≤ 320) :
    Calls Tryz.prog 175 #[.pointer (some ⟨x, 0, none⟩), .pointer (some ⟨ta, 0, none⟩), .int .i64 (many : Int)] w fun e w' =>
      RwLeft (rowM l many 400 [] s m p o) w.heap.size w' B x g s m e ∧ Fr w w' (SI B x g w) := by
  obtain ⟨res, hres⟩ : ∃ res, res = rowM l many 400 [] s m p o := ⟨_, rfl⟩
  rw [← hres]
  have HRES := Aside0.mk hres
  have H0 : Aside0 (_ ∧ _) := ⟨h, hT⟩
  clear h hT hres
  go_enter Tryz.func175, Tryz.ntmps175
  go_wp2_with fail
  refine (filler_calls _ many).mono ?_
  rintro e w1 ⟨rfl, hf1, hb1⟩
  obtain ⟨mb, hmb⟩ : ∃ mb, mb = w.heap.size := ⟨_, rfl⟩
  obtain ⟨cb, hcb⟩ : ∃ cb, cb = w.heap.size + 1 := ⟨_, rfl⟩
  rw [← hcb, ← hmb] at hf1
  have HBB : Aside0 (w.heap.size ≤ mb ∧ w.heap.size ≤ cb ∧ mb = w.heap.size) := ⟨by omega, by omega, hmb⟩
  have H1 : Aside0 (RwMid w w1 B x g mb cb many s p o m (.slice none 0 0) []) := ⟨⟨H0.out.1.below hb1, hf1, Fr.of_below hb1 _⟩⟩
  rw [← hcb, ← hmb]
  clear hf1 hb1 hmb hcb
  go_wp2_with fail
  go_loopg [] 400 (fun kq wr => ∃ (p1 : Nat) (v : Value) (row : List Int), p1 ≤ 8 * s.size ∧ row.length ≤ many ∧ many < row.length + kq ∧ Aside0 (RwMid w wr B x g mb cb many s p1 o m v row ∧ res = rowM l many kq row s m p1 o))
  case atStart => exact ⟨p, _, [], hp, by simp, by simp; omega, H1.out, HRES.out⟩
  case round =>
    clear H1 HRES
    obtain ⟨p1, v, row, hp1, hrl, hk, HW⟩ := hrel
    cases gk with
    | zero => exact absurd hk (by omega)
    | succ k1 =>
      obtain ⟨A1, n1, k1c, hv1, hn1⟩ := HW.out.1.fill.row.shape
      subst hv1
      obtain rfl := hn1.out
      have d1 : wr.cell? ⟨cb, 0, none⟩ = some (.slice A1 row.length k1c) := blk_cell HW.out.1.fill.cblk 0
      have hrec := HW.out.2
      rw [rowM] at hrec
      by_cases hlt : row.length < many
      · have q1 : decide ((row.length : Int) < (many : Int)) = true := decide_eq_true (by omega)
        have q1n : decide (row.length < many) = true := decide_eq_true hlt
        rw [if_pos hlt] at hrec
        have HTr : Aside0 (Tr wr B1 ta l) := ⟨TreeAt.frI H0.out.2 H0.out.1 HW.out.1.fr⟩
        have KR := Aside0.mk (tread_calls wr B1 ta g l s p1 hml HTr.out HW.out.1.inf.rd hs)
        have hd0 := rdS_nonneg s l p1
        have hdb := rdS_big s l p1 (by omega)
        have hq := rdS_le s l p1 hp1
        have hsy1 := fun h => sym_ok (l := l) (s := s) (m := m) (p := p1) (o := o) h
        have hsy2 := fun h => sym_bad (l := l) (s := s) (m := m) (p := p1) (o := o) h
        obtain ⟨rr, hrr⟩ : ∃ rr, rr = rdS s l p1 := ⟨_, rfl⟩
        rw [← hrr] at KR hd0 hdb hq hsy1 hsy2
        obtain ⟨d, er, q⟩ := rr
        dsimp only at KR hd0 hdb hq hsy1 hsy2
        obtain ⟨D, rfl⟩ := Int.eq_ofNat_of_zero_le hd0
        obtain ⟨v1, hb1, _⟩ := HW.out.1.inf.blk
        have c1 : wr.cell? ⟨x, 0, none⟩ = some (.pointer (some ⟨g, 0, none⟩)) := blk_cell hb1 0
        have HREC := Aside0.mk hrec
        clear hrr hb1 hd0 hrec hn1 HTr
        go_wp2_with fail
        refine KR.out.mono ?_
        rintro e w3 ⟨rfl, h3, f3⟩
        have HW3 := Aside0.mk (HW.out.1.read h3 f3)
        clear h3 f3 HW KR c1 d1
        by_cases her : er = 0
        · subst her
          have hr1 := hsy1 rfl
          have HREC1 := HREC.out
          rw [bind_ok hr1] at HREC1
          have HREC2 := Aside0.mk HREC1
          clear hsy1 hsy2 HREC hr1 HREC1
          have d3 : w3.cell? ⟨cb, 0, none⟩ = some (.slice A1 row.length k1c) := blk_cell HW3.out.fill.cblk 0
          go_upto_block 2 with fail
          have hbz := below_alloc (Below.refl w3.heap.size w3) (.cells #[.int .i64 1, .int .i64 0] 214)
          have hz := heap_alloc_new w3 (.cells #[.int .i64 1, .int .i64 0] 214)
          have HW4 := Aside0.mk (HW3.out.below hbz)
          obtain ⟨z, hzz⟩ : ∃ z, z = w3.heap.size := ⟨_, rfl⟩
          have HZ : Aside0 (w.heap.size ≤ z) := ⟨by rw [hzz]; exact HW3.out.fr.size⟩
          rw [← hzz] at hz ⊢
          generalize World.alloc w3 _ = W4 at HW4 hz ⊢
          have HZB := Aside0.mk hz
          clear hbz hzz d3 HW3 hz
          go_cut [12] (fun v12 wc => ∃ (a : Int) (b : Nat) (what : Int), v12 = .int .i64 what ∧ 1 ≤ a ∧ a ≤ 11 ∧ b ≤ 7 ∧ Aside0 (RwMid w wc B x g mb cb many s q o m (.slice A1 row.length k1c) row ∧ wc.heap[z]? = some (.cells #[.int .i64 a, .int .i64 (b : Int)] 214 (0, 0)) ∧
            res = ((toldM (a, b)).bind fun times => if (many : Int) - row.length < times then RM.err 4 else rowM l many k1 (row ++ List.replicate times.toNat what)) s m q o))
          case first =>
            have z0 : W4.cell? ⟨z, 0, none⟩ = some (.int .i64 1) := blk_cell HZB.out 0
            have z1 : W4.cell? ⟨z, 1, none⟩ = some (.int .i64 0) := blk_cell HZB.out 1
            have y0 := blk_frozen HZB.out 0
            have y1 := blk_frozen HZB.out 1
            have d4 : W4.cell? ⟨cb, 0, none⟩ = some (.slice A1 row.length k1c) := blk_cell HW4.out.fill.cblk 0
            by_cases h16 : D = 16
            · subst h16
              by_cases hnil : row = []
              · subst hnil
                have hr2 := HREC2.out
                rw [if_pos ⟨by decide, rfl⟩] at hr2
                have HR := Aside0.mk hr2
                clear hr2 HREC2
                have q3 : decide (((([] : List Int).length : Nat) : Int) = 0) = true := by decide
                go_wp2_with fail
                repeat (rw [Exit.noGoto_ret])
                go_returns
                rw [HR.out]
                exact ⟨rfl, HW4.out.fr⟩
              · have hr2 := HREC2.out
                rw [if_neg (fun h => hnil h.2), if_pos (by decide), if_pos (by decide)] at hr2
                have HR := Aside0.mk hr2
                have hl0 : row.length ≠ 0 := fun h => hnil (List.length_eq_zero_iff.1 h)
                have q3 : ((row.length : Int) == 0) = false := beq_eq_false_iff_ne.2 (by omega)
                have q3n : (row.length == 0) = false := beq_eq_false_iff_ne.2 hl0
                obtain ⟨ix, hix⟩ : ∃ ix, ix = row.length - 1 := ⟨_, rfl⟩
                have hix2 : (row.length : Int) - 1 = (ix : Int) := by omega
                have hixI0 : (0 : Int) ≤ (ix : Int) := by omega
                have hixI1 : (ix : Int) < (row.length : Int) := by omega
                have hixl : ix < row.length := by omega
                have hixW : IntKind.i64.wrap (ix : Int) = (ix : Int) := by rw [IntKind.wrap_i64]; omega
                obtain ⟨ad, had, hcell⟩ := ReadsInt.at_ (reads_kdC (Row.kdC HW4.out.fill.row).2.2) (ix : Int) (by omega) (by omega)
                subst had
                rw [Int.toNat_natCast, rd_nat] at hcell
                obtain ⟨y, hy⟩ : ∃ y, y = row.getD ix 0 := ⟨_, rfl⟩
                rw [← hy] at hcell
                have HY : Aside0 (y = row.getD (row.length - 1) 0) := ⟨by rw [hy, hix]⟩
                clear hr2 HREC2 hix hy hl0 hnil
                go_wp2_with fail
                go_big_region
                go_wp2_with fail
                go_meet
                have hf : Fr W4 ((W4.setCell ⟨z, 0, none⟩ (.int .i64 3)).setCell ⟨z, 1, none⟩ (.int .i64 2)) (· = z) := ((Fr.refl _ _).set1 0 _).set1 1 _
                exact ⟨3, 2, y, rfl, by decide, by decide, by decide, (HW4.out.span HZB.out HZ.out hf).drawn ⟨1, rfl⟩, (blk_set (blk_set HZB.out 0 _) 1 _).trans rfl, by rw [HY.out]; exact HR.out⟩
            · have q3 : ((D : Int) == 16) = false := beq_eq_false_iff_ne.2 (by omega)
              have q3n : (D == 16) = false := beq_eq_false_iff_ne.2 h16
              have hr2 := HREC2.out
              rw [if_neg (fun h => h16 (by have := h.1; omega)), if_neg (show ¬ ((D : Int) = 16) by omega), if_neg (show ¬ ((D : Int) = 16) by omega)] at hr2
              by_cases h17 : D = 17
              · subst h17
                rw [if_pos (by decide), if_pos (.inl (by decide))] at hr2
                have HR := Aside0.mk hr2
                clear hr2 HREC2
                go_wp2_with fail
                go_meet
                have hf : Fr W4 ((W4.setCell ⟨z, 0, none⟩ (.int .i64 3)).setCell ⟨z, 1, none⟩ (.int .i64 3)) (· = z) := ((Fr.refl _ _).set1 0 _).set1 1 _
                exact ⟨3, 3, 0, rfl, by decide, by decide, by decide, HW4.out.span HZB.out HZ.out hf, (blk_set (blk_set HZB.out 0 _) 1 _).trans rfl, HR.out⟩
              · have q4 : ((D : Int) == 17) = false := beq_eq_false_iff_ne.2 (by omega)
                have q4n : (D == 17) = false := beq_eq_false_iff_ne.2 h17
                rw [if_neg (show ¬ ((D : Int) = 17) by omega)] at hr2
                by_cases h18 : D = 18
                · subst h18
                  rw [if_pos (by decide), if_pos (.inr (by decide))] at hr2
                  have HR := Aside0.mk hr2
                  clear hr2 HREC2
                  go_wp2_with fail
                  go_meet
                  have hf : Fr W4 ((W4.setCell ⟨z, 0, none⟩ (.int .i64 11)).setCell ⟨z, 1, none⟩ (.int .i64 7)) (· = z) := ((Fr.refl _ _).set1 0 _).set1 1 _
                  exact ⟨11, 7, 0, rfl, by decide, by decide, by decide, HW4.out.span HZB.out HZ.out hf, (blk_set (blk_set HZB.out 0 _) 1 _).trans rfl, HR.out⟩
                · have q5 : ((D : Int) == 18) = false := beq_eq_false_iff_ne.2 (by omega)
                  have q5n : (D == 18) = false := beq_eq_false_iff_ne.2 h18
                  rw [if_neg (show ¬ ((D : Int) = 18) by omega), if_neg (by omega)] at hr2
                  have HR := Aside0.mk hr2
                  clear hr2 HREC2
                  go_wp2_with fail
                  go_meet
                  exact ⟨1, 0, D, rfl, by decide, by decide, by decide, HW4.out, HZB.out, HR.out⟩
          case rest =>
            clear HREC2 HW4 HZB
            obtain ⟨a, b, what, rfl, ha0, ha1, hb7, HC⟩ := hcut
            have z0 : wc.cell? ⟨z, 0, none⟩ = some (.int .i64 a) := blk_cell HC.out.2.1 0
            have z1 : wc.cell? ⟨z, 1, none⟩ = some (.int .i64 (b : Int)) := blk_cell HC.out.2.1 1
            have KT := Aside0.mk (told_calls wc B x g s q o m a b HC.out.1.inf hs (by omega) (by omega) (by omega) (Nat.le_trans hB HC.out.1.fr.size))
            by_cases hsh : q + b ≤ 8 * s.size
            · have hr2 := HC.out.2.2
              rw [bind_ok (told_ok hsh)] at hr2
              rw [told_ok hsh] at KT
              have hv := val_range s q b
              have hpw := pow_le2 hb7
              obtain ⟨N, hN⟩ := Int.eq_ofNat_of_zero_le (show 0 ≤ a + val s q b by omega)
              rw [hN] at hr2 KT
              have hN2 : N ≤ 200 := by omega
              rw [Int.toNat_natCast] at hr2
              have HR := Aside0.mk hr2
              have hN1 : a + val s q b = (N : Int) := hN
              clear hr2 hN hpw
              go_wp2_with fail
              refine KT.out.mono ?_
              rintro e w5 ⟨⟨rfl, hi5⟩, hf5⟩
              have HW5 := Aside0.mk (HC.out.1.inf_ hi5 hf5)
              clear hi5 hf5 KT HC z0 z1
              by_cases hroom : (many : Int) - (row.length : Int) < (N : Int)
              · have hr3 := HR.out
                rw [if_pos hroom] at hr3
                have HR3 := Aside0.mk hr3
                have KP := Aside0.mk (put_bad w5 mb cb many N _ row what HW5.out.fill (by omega) (by omega) hrl hroom)
                clear hr3 HR hroom hv hN1
                go_wp2_with fail
                refine KP.out.mono ?_
                rintro e w6 ⟨rfl, rfl⟩
                go_wp2_with fail
                repeat (rw [Exit.noGoto_ret])
                go_returns
                rw [HR3.out]
                exact ⟨rfl, HW5.out.fr⟩
              · have hr3 := HR.out
                rw [if_neg hroom] at hr3
                have HR3 := Aside0.mk hr3
                have KP := Aside0.mk (put_ok w5 mb cb many N _ row what HW5.out.fill (by omega) (by omega) hrl hroom)
                have hlen : (row ++ List.replicate N what).length = row.length + N := by rw [List.length_append, List.length_replicate]
                have hN3 : 1 ≤ N := by omega
                have HLN := Aside0.mk hlen
                clear hr3 HR hv hN1 hlen
                go_wp2_with fail
                refine KP.out.mono ?_
                rintro e w6 ⟨rfl, ⟨v6, hf6⟩, hp6⟩
                have HW6 := Aside0.mk (HW5.out.put hf6 hp6 HBB.out.1 HBB.out.2.1)
                clear hf6 hp6 KP HW5
                go_wp2_with fail
                go_roundg k1
                case measure => omega
                case rel => exact ⟨q + b, v6, row ++ List.replicate N what, hsh, by rw [HLN.out]; omega, by rw [HLN.out]; omega, HW6.out, HR3.out⟩
            · have hr2 := HC.out.2.2
              rw [bind_bad (told_bad hsh)] at hr2
              rw [told_bad hsh] at KT
              have HR := Aside0.mk hr2
              clear hr2
              go_wp2_with fail
              refine KT.out.mono ?_
              rintro e w5 ⟨rfl, hf5⟩
              have HF5 := Aside0.mk (HC.out.1.fr.si hf5)
              clear hf5 KT HC z0 z1
              go_wp2_with fail
              repeat (rw [Exit.noGoto_ret])
              go_returns
              rw [HR.out]
              exact ⟨rfl, HF5.out⟩
        · have hr1 := hsy2 her
          have HREC1 := HREC.out
          rw [bind_bad hr1] at HREC1
          have HREC2 := Aside0.mk HREC1
          have q2 : (er != 0) = true := by simpa using her
          clear hsy1 hsy2 HREC hr1 her HREC1
          go_wp2_with fail
          repeat (rw [Exit.noGoto_ret])
          go_returns
          rw [HREC2.out]
          exact ⟨rfl, HW3.out.fr⟩
      · have q1 : decide ((row.length : Int) < (many : Int)) = false := decide_eq_false (by omega)
        have q1n : decide (row.length < many) = false := decide_eq_false hlt
        rw [if_neg hlt] at hrec
        have HREC := Aside0.mk hrec
        clear hrec hn1
        go_wp2_with fail
        go_returns
        rw [HREC.out]
        exact ⟨⟨_, rfl, HW.out.1.fill.row.lower (by have := HBB.out; omega), HW.out.1.inf⟩, HW.out.1.fr⟩
end Go.Proofs.YtghoifkaikddlaaGreat.Hand
namespace Go.Proofs.YtghoifkaikddlaaGreat.Hand
open Go.RowKit Go.Proofs.YtghoifkaikddlaaGreatW.PrintWords Go.Proofs.YtghoifkaikddlaaGreatW.PrintLast Go.Proofs.YtghoifkaikddlaaGreatW.PrintMore Go.Proofs.YtghoifkaikddlaaGreat.Num Go.Proofs.YtghoifkaikddlaaGreat.Bits
set_option linter.unusedVariables false
set_option linter.unusedSimpArgs false
theorem rowM_ok (l : List Int) (hl : l.length ≤ 320) (many : Nat) (s : ByteArray) (m : Int) : ∀ (k : Nat) (row : List Int) (p : Nat) (o : List Int) (r : List Int) (q : Nat) (o' : List Int), row.length ≤ many → (∀ x ∈ row, 0 ≤ x ∧ x ≤ 320) → p ≤ 8 * s.size → rowM l many k row s m p o = .ok r q o' → r.length = many ∧ (∀ x ∈ r, 0 ≤ x ∧ x ≤ 320) ∧ q ≤ 8 * s.size ∧ o' = o
  | 0, row, p, o, r, q, o', _, _, _, h => by cases h
  | k + 1, row, p, o, r, q, o', h1, h2, hp, h => by
    rw [rowM] at h
    by_cases hlt : row.length < many
    · rw [if_pos hlt] at h
      by_cases he : (rdS s l p).2.1 = 0
      · rw [bind_ok (sym_ok he)] at h
        have hd0 := rdS_nonneg s l p
        have hdb := rdS_big s l p hl
        have hq := rdS_le s l p hp
        generalize (rdS s l p).1 = D at h hd0 hdb
        generalize (rdS s l p).2.2 = p2 at h hq
        by_cases h16 : D = 16 ∧ row = []
        · rw [if_pos h16] at h; cases h
        · rw [if_neg h16] at h
          obtain ⟨a, b, hab, hb7⟩ : ∃ (a : Int) (b : Nat), (if D = 16 then ((3, 2) : Int × Nat) else if D = 17 then (3, 3) else if D = 18 then (11, 7) else (1, 0)) = (a, b) ∧ 1 ≤ a := by
            by_cases c1 : D = 16
            · exact ⟨3, 2, by rw [if_pos c1], by decide⟩
            · by_cases c2 : D = 17
              · exact ⟨3, 3, by rw [if_neg c1, if_pos c2], by decide⟩
              · by_cases c3 : D = 18
                · exact ⟨11, 7, by rw [if_neg c1, if_neg c2, if_pos c3], by decide⟩
                · exact ⟨1, 0, by rw [if_neg c1, if_neg c2, if_neg c3], by decide⟩
          rw [hab] at h
          by_cases hsh : p2 + b ≤ 8 * s.size
          · rw [bind_ok (told_ok hsh)] at h
            have hv := val_range s p2 b
            generalize hN : a + val s p2 b = N at h
            by_cases hroom : (many : Int) - row.length < N
            · rw [if_pos hroom] at h; cases h
            · rw [if_neg hroom] at h
              refine rowM_ok l hl many s m k _ (p2 + b) o r q o' (by rw [List.length_append, List.length_replicate]; omega) (fun x hx => ?_) hsh h
              rcases List.mem_append.1 hx with hx | hx
              · exact h2 x hx
              · have := (List.mem_replicate.1 hx).2
                subst this
                split
                · rw [List.getD_eq_getElem?_getD]
                  cases hc : row[row.length - 1]? with
                  | none => simp
                  | some z => exact h2 z (List.mem_of_getElem? hc)
                · split
                  · omega
                  · omega
          · rw [bind_bad (told_bad hsh)] at h; cases h
      · rw [bind_bad (sym_bad he)] at h; cases h
    · rw [if_neg hlt] at h
      injection h with a1 a2 a3
      subst a1 a2 a3
      exact ⟨by omega, h2, hp, rfl⟩
theorem sumL_nonneg : ∀ l : List Int, (∀ x ∈ l, 0 ≤ x) → 0 ≤ sumL l
  | [], _ => by simp [sumL]
  | x :: t, h => by
    have h1 := h x (List.mem_cons_self ..)
    have h2 := sumL_nonneg t (fun y hy => h y (List.mem_cons_of_mem _ hy))
    rw [sumL]; omega
theorem kraft_sum : ∀ l : List Int, (∀ x ∈ l, 0 ≤ x) → kraft l ≤ 16384 * sumL l ∧ ∀ x ∈ l, x ≤ sumL l
  | [], _ => by simp [kraft, sumL]
  | n :: t, h => by
    have h1 := h n (List.mem_cons_self ..)
    have ht := fun y (hy : y ∈ t) => h y (List.mem_cons_of_mem _ hy)
    obtain ⟨h2, h3⟩ := kraft_sum t ht
    have h4 := sumL_nonneg t ht
    have h5 : part9 n ≤ 16384 * n := by
      unfold part9
      split
      · have := pow_le2 (show 15 - n.toNat ≤ 14 by omega)
        have e : (2 : Int) ^ 14 = 16384 := by decide
        omega
      · omega
    rw [kraft, sumL]
    refine ⟨by omega, fun x hx => ?_⟩
    rcases List.mem_cons.1 hx with rfl | hx
    · omega
    · have := h3 x hx; omega
theorem reach_may {l : List Int} (h : reachB l = true) (hx : ∀ x ∈ l, 0 ≤ x) (hl : l.length ≤ 320) : mayF l = 0 := by
  unfold reachB at h
  by_cases hs : sumL l < 2
  · obtain ⟨h1, h2⟩ := kraft_sum l hx
    have h3 : l.all (fun n => decide (0 ≤ n ∧ n ≤ 15)) = true := List.all_eq_true.2 (fun x hxm => by
      have a := hx x hxm
      have b := h2 x hxm
      simp; omega)
    have hc := chk_eq l
    rw [if_neg (by omega), if_pos h3] at hc
    unfold mayF
    by_cases hk : kraft l = 0
    · rw [if_pos hk] at hc; rw [hc]; decide
    · rw [if_neg hk, if_neg (by omega), if_pos (by omega)] at hc; rw [hc]; decide
  · rw [decide_eq_false hs, Bool.false_or, decide_eq_true_iff] at h
    exact chk_may h
set_option maxRecDepth 100000 in
set_option maxHeartbeats 4000000 in
theorem reaches_calls (A : Option Addr) (c : Nat) (l : List Int) (w : World) (hr : ReadsInt w .i64 A l.length l) (hc : l.length ≤ c) (hx : ∀ x ∈ l, 0 ≤ x ∧ x ≤ 320) (hl : l.length ≤ 320) :
    Calls Tryz.prog 177 #[.slice A l.length c] w fun e w' => e = .returned (.bool (reachB l)) ∧ Below w.heap.size w w' := by
  have HR := Aside0.mk hr
  have HX := Aside0.mk hx
  have HK := Aside0.mk (fun (W : World) (h : Drawn0 w W) => check_calls A l.length c l W rfl (by obtain ⟨n, rfl⟩ := h.out; exact hr) hc)
  obtain ⟨S, hS⟩ : ∃ S, S = sumL l := ⟨_, rfl⟩
  obtain ⟨ck, hck⟩ : ∃ ck, ck = chkF l := ⟨_, rfl⟩
  have HB : Aside0 (reachB l = (decide (S < 2) || decide (ck = 0))) := ⟨by unfold reachB; rw [hS, hck]⟩
  rw [← hck] at HK
  have HS := Aside0.mk hS
  clear hr hx hS hck
  go_enter Tryz.func177, Tryz.ntmps177
  go_wp2_with fail
  go_loopw [3, 8] (fun v3 v8 wr => ∃ (i : Nat) (q : Int), v3 = .int .i64 q ∧ v8 = .int .i64 i ∧ i ≤ l.length ∧ 0 ≤ q ∧ q ≤ 320 * i ∧ Aside0 (q + sumL (l.drop i) = sumL l ∧ Drawn0 w wr)) (fun _ v8 _ => l.length - (intOf v8).toNat)
  case atStart => exact ⟨0, 0, rfl, rfl, by omega, by omega, by omega, by simp, Drawn0.refl _⟩
  case round =>
    obtain ⟨i, q, rfl, rfl, hi, hq0, hq1, HW⟩ := hrel
    by_cases hlt : i < l.length
    · have q1 : decide ((i : Int) < (l.length : Int)) = true := decide_eq_true (by omega)
      have q1n : decide (i < l.length) = true := decide_eq_true hlt
      obtain ⟨ad, had, hcell⟩ := ReadsInt.at_ HR.out (i : Int) (by omega) (by omega)
      subst had
      obtain ⟨⟨nd, rfl⟩⟩ := HW.out.2
      rw [Int.toNat_natCast, rd_nat] at hcell
      have hdr : l.drop i = l.getD i 0 :: l.drop (i + 1) := by rw [List.getD_eq_getElem?_getD, List.getElem?_eq_getElem hlt, Option.getD_some, ← List.drop_eq_getElem_cons hlt]
      have hxi := HX.out (l.getD i 0) (by rw [List.getD_eq_getElem?_getD, List.getElem?_eq_getElem hlt]; exact List.getElem_mem _)
      have hsm := HW.out.1
      rw [hdr, sumL] at hsm
      obtain ⟨y, hy⟩ : ∃ y, y = l.getD i 0 := ⟨_, rfl⟩
      rw [← hy] at hcell hxi hsm
      have HSM := Aside0.mk hsm
      clear hdr hy hsm HW
      go_wp2_with fail
      go_roundw
      case rel => exact ⟨i + 1, q + y, rfl, by go_num, by omega, by omega, by omega, by rw [← HSM.out]; omega, ⟨_, rfl⟩⟩
      case measure => simp [intOf]; omega
    · have q1 : decide ((i : Int) < (l.length : Int)) = false := decide_eq_false (by omega)
      have q1n : decide (i < l.length) = false := decide_eq_false hlt
      have hsm := HW.out.1
      rw [List.drop_of_length_le (by omega), sumL, Int.add_zero, ← HS.out] at hsm
      subst hsm
      have HD := Aside0.mk HW.out.2
      clear HW HS HX
      by_cases h2 : q < 2
      · have q2 : decide (q < 2) = true := decide_eq_true h2
        go_wp2_with fail
        go_returns
        rw [HB.out, q2, Bool.true_or]
        exact ⟨rfl, HD.out.below⟩
      · have q2 : decide (q < 2) = false := decide_eq_false h2
        go_wp2_with fail
        refine (HK.out _ HD.out).mono ?_
        rintro e w2 ⟨rfl, hb2⟩
        have HB2 := Aside0.mk (HD.out.below.trans (hb2.mono HD.out.below.size))
        clear hb2 HK HD
        have he : (ck == 0) = decide (ck = 0) := by rw [Bool.eq_iff_iff]; simp
        go_wp2_with fail
        go_returns
        rw [HB.out, q2, Bool.false_or]
        exact ⟨rfl, HB2.out⟩
end Go.Proofs.YtghoifkaikddlaaGreat.Hand
namespace Go.Proofs.YtghoifkaikddlaaGreat.Hand
open Go.RowKit Go.Proofs.YtghoifkaikddlaaGreatW.PrintWords Go.Proofs.YtghoifkaikddlaaGreatW.PrintLast Go.Proofs.YtghoifkaikddlaaGreatW.PrintMore Go.Proofs.YtghoifkaikddlaaGreat.Num Go.Proofs.YtghoifkaikddlaaGreat.Bits
set_option linter.unusedVariables false
set_option linter.unusedSimpArgs false
def ownRest (ns : List Int) : RM Unit := if 29 < ns.getD 0 0 ∨ 29 < ns.getD 1 0 then RM.err 4 else
  (headsM ((ns.getD 2 0).toNat + 4)).bind fun l => (rowM l ((ns.getD 0 0).toNat + (ns.getD 1 0).toNat + 258) 400 []).bind fun row =>
    if chkF (row.take ((ns.getD 0 0).toNat + 257)) ≠ 0 ∨ row.getD 256 0 = 0 ∨ reachB (row.drop ((ns.getD 0 0).toNat + 257)) = false then RM.err 4 else codedM (row.take ((ns.getD 0 0).toNat + 257)) (row.drop ((ns.getD 0 0).toNat + 257)) bigK
def widthsT : List Nat := [5, 5, 4]
def ownL : Nat → Nat → List Int → RM Unit
  | 0, _, ns => ownRest ns
  | j + 1, i, ns => (getM (widthsT.getD i 0)).bind fun n => ownL j (i + 1) (ns.set i n)
theorem own_eq : ownM = ownL 3 0 [0, 0, 0] := rfl
set_option maxRecDepth 100000 in
theorem index_widths (W : World) (i : Nat) (hi : i < 3) : (Instr.index 70 (.agg #[.int .i64 5, .int .i64 5, .int .i64 4]) (.int .i64 (i : Int))).run Tryz.prog W = .ok (.int .i64 ((widthsT.getD i 0 : Nat) : Int)) W := by
  obtain ⟨ie, hie, hsz⟩ := Option.map_eq_some_iff.1 infoInt1
  have h := run_index_ints W _ 3 3 ie Tryz.underlying70 (aggInt W) hie hsz [5, 5, 4] rfl i hi
  have e : ([5, 5, 4] : List Int).getD i 0 = ((widthsT.getD i 0 : Nat) : Int) := by
    match i, hi with
    | 0, _ => rfl
    | 1, _ => rfl
    | 2, _ => rfl
  rw [e] at h
  exact h
theorem widths_le : ∀ i, i < 3 → widthsT.getD i 0 ≤ 5 := by decide
theorem reads_take {w : World} {A : Option Addr} {l : List Int} (h : ReadsInt w .i64 A l.length l) (k : Nat) (hk : k ≤ l.length) : ReadsInt w .i64 A (l.take k).length (l.take k) := by
  obtain ⟨h1, h2, h3⟩ := h
  refine ⟨rfl, by rw [List.length_take]; omega, fun hn => ?_⟩
  rw [List.length_take] at hn
  obtain ⟨ad, e, hc⟩ := h3 (by omega)
  refine ⟨ad, e, fun j hj => ?_⟩
  rw [List.length_take] at hj
  rw [hc j (by omega)]
  congr 2
  rw [List.getD_eq_getElem?_getD, List.getD_eq_getElem?_getD, List.getElem?_take, if_pos (by omega)]
theorem reads_drop {w : World} {ad : Addr} {l : List Int} (h : ReadsInt w .i64 (some ad) l.length l) (k : Nat) (hk : k ≤ l.length) (had : ∀ j, (ad.add k).add j = ad.add (k + j)) : ReadsInt w .i64 (some (ad.add k)) (l.drop k).length (l.drop k) := by
  obtain ⟨h1, h2, h3⟩ := h
  refine ⟨rfl, by rw [List.length_drop]; omega, fun hn => ?_⟩
  rw [List.length_drop] at hn
  obtain ⟨ad', e, hc⟩ := h3 (by omega)
  injection e with e
  subst e
  refine ⟨_, rfl, fun j hj => ?_⟩
  rw [List.length_drop] at hj
  rw [had, hc (k + j) (by omega)]
  congr 2
  rw [List.getD_eq_getElem?_getD, List.getD_eq_getElem?_getD, List.getElem?_drop]
structure OwMid (w W : World) (B x g a : Nat) (s : ByteArray) (p : Nat) (o : List Int) (m : Int) (ns : List Int) : Prop where
  inf : InfAt W B x g s p o m
  blk : W.heap[a]? = some (.cells (nums .i64 ns).toArray 70 (0, 0))
  fr : Fr w W (SI B x g w)
  len : ns.length = 3
set_option maxRecDepth 100000 in
set_option maxHeartbeats 4000000 in
theorem own_calls (w : World) (B x g : Nat) (s : ByteArray) (p : Nat) (o : List Int) (m : Int) (h : InfAt w B x g s p o m) (hs : s.size ≤ 1000000) (hB : B ≤ w.heap.size) (hm0 : 0 ≤ m) (hm : m ≤ 10000000) (ho : (o.length : Int) ≤ m) (hp : p ≤ 8 * s.size) :
    Calls Tryz.prog 165 #[.pointer (some ⟨x, 0, none⟩)] w fun e w' =>
      Left (ownM s m p o) (fun _ => .int .i64 0) (fun c => .int .i64 c) w' B x g s m e ∧ Fr w w' (SI B x g w) := by
  obtain ⟨res, hres⟩ : ∃ res, res = ownM s m p o := ⟨_, rfl⟩
  rw [← hres]
  rw [own_eq] at hres
  have HRES := Aside0.mk hres
  have hxl : x < w.heap.size := by obtain ⟨v, hb, _⟩ := h.blk; exact blk_lt hb
  have hgl : g < w.heap.size := blk_lt h.rd.blk
  have HXG : Aside0 (_ ∧ _) := ⟨hxl, hgl⟩
  have H0 := Aside0.mk h
  have KI := Aside0.mk (fun (W : World) (i : Nat) (hi : i < 3) => index_widths W i hi)
  clear h hres hxl hgl
  go_enter Tryz.func165, Tryz.ntmps165
  go_upto_block 0 with fail
  obtain ⟨a, ha⟩ : ∃ a, a = w.heap.size := ⟨_, rfl⟩
  have hbz := below_alloc (Below.refl w.heap.size w) (.cells #[.int .i64 0, .int .i64 0, .int .i64 0] 70)
  have H1 : Aside0 (OwMid w (w.alloc (.cells #[.int .i64 0, .int .i64 0, .int .i64 0] 70)) B x g w.heap.size s p o m [0, 0, 0]) := ⟨⟨H0.out.below hbz, heap_alloc_new w _, Fr.of_below hbz _, rfl⟩⟩
  rw [← ha] at H1 ⊢
  have HA := Aside0.mk ha
  generalize World.alloc w _ = W1 at H1 ⊢
  clear hbz ha H0
  go_cut [] (fun wc => ∃ (p1 : Nat) (ns : List Int), p1 ≤ 8 * s.size ∧ Aside0 (OwMid w wc B x g a s p1 o m ns ∧ res = ownRest ns s m p1 o ∧ ∀ n ∈ ns, 0 ≤ n ∧ n ≤ 31))
  case first =>
    go_wp2_with fail
    go_loopw [18] (fun v18 wr => ∃ (i p1 : Nat) (ns : List Int), v18 = .int .i64 i ∧ i ≤ 3 ∧ p1 ≤ 8 * s.size ∧ Aside0 (OwMid w wr B x g a s p1 o m ns ∧ res = ownL (3 - i) i ns s m p1 o ∧ ∀ n ∈ ns, 0 ≤ n ∧ n ≤ 31)) (fun v18 _ => 3 - (intOf v18).toNat)
    case atStart => exact ⟨0, p, _, rfl, by omega, hp, H1.out, HRES.out, by simp⟩
    case round =>
      clear H1 HRES
      obtain ⟨i, p1, ns, rfl, hi, hp1, HW⟩ := hrel
      have hrec := HW.out.2.1
      by_cases hlt : i < 3
      · have q1 : decide ((i : Int) < 3) = true := decide_eq_true (by omega)
        have q1n : decide (i < 3) = true := decide_eq_true hlt
        have hx := fun W => KI.out W i hlt
        obtain ⟨k, hk⟩ : ∃ k, k = widthsT.getD i 0 := ⟨_, rfl⟩
        have hk5 : k ≤ 5 := by rw [hk]; exact widths_le i hlt
        rw [← hk] at hx
        rw [show 3 - i = (3 - (i + 1)) + 1 by omega, ownL, ← hk] at hrec
        obtain ⟨v1, hb1, _⟩ := HW.out.1.inf.blk
        have c1 : wr.cell? ⟨x, 0, none⟩ = some (.pointer (some ⟨g, 0, none⟩)) := blk_cell hb1 0
        clear hb1 hk
        by_cases h3 : p1 + k ≤ 8 * s.size
        · have K1 := rd_get wr g s p1 k HW.out.1.inf.rd (by omega) (by omega) h3
          rw [bind_ok (get_ok h3)] at hrec
          have hv := val_range s p1 k
          have hpw := pow_le2 hk5
          obtain ⟨y, hy⟩ : ∃ y, y = val s p1 k := ⟨_, rfl⟩
          rw [← hy] at K1 hrec hv
          have hy31 : 0 ≤ y ∧ y ≤ 31 := by have e : (2 : Int) ^ 5 = 32 := by decide
                                           omega
          have K1 := Aside0.mk K1
          have HREC := Aside0.mk hrec
          clear hy hrec hv hpw
          go_wp2_with fail
          refine K1.out.mono ?_
          rintro e w2 ⟨rfl, h2, f2⟩
          have hag : ¬ a = g := by have := HXG.out.2; have := HA.out; omega
          have HW2 : Aside0 (OwMid w w2 B x g a s (p1 + k) o m ns ∧ ∀ n ∈ ns, 0 ≤ n ∧ n ≤ 31) := ⟨⟨HW.out.1.inf.read h2 f2, f2.blk HW.out.1.blk hag, HW.out.1.fr.si f2.siR, HW.out.1.len⟩, HW.out.2.2⟩
          clear h2 f2 HW K1 c1 hag
          have d1 : w2.cell? ⟨a, i, none⟩ = some (.int .i64 (ns.getD i 0)) := (blk_cell HW2.out.1.blk i).trans (nums_at ns i (by rw [HW2.out.1.len]; exact hlt))
          have d2 := blk_frozen HW2.out.1.blk i
          have hix0 : (0 : Int) ≤ (i : Int) := by omega
          have hix1 : (i : Int) < 3 := by omega
          go_wp2_with fail
          have HS : Aside0 (OwMid w (w2.setCell ⟨a, i, none⟩ (.int .i64 y)) B x g a s (p1 + k) o m (ns.set i y)) := by
            have hf : Fr w2 (w2.setCell ⟨a, i, none⟩ (.int .i64 y)) (· = a) := (Fr.refl _ _).set1 i _
            obtain ⟨v2, hb2, hr2⟩ := HW2.out.1.inf.blk
            have hA := HA.out
            have hX := HXG.out
            refine ⟨⟨⟨⟨v2, hf.blk hb2 (by omega), hr2.fr hf (fun j hj => hr2.ne_blk HW2.out.1.blk (by decide) j hj)⟩, HW2.out.1.inf.rd.fr hf (by omega)⟩, ?_, HW2.out.1.fr.trans hf (fun j hj h => absurd hj (by omega)), by rw [List.length_set]; exact HW2.out.1.len⟩⟩
            refine (blk_set HW2.out.1.blk i _).trans ?_
            simp [nums, List.map_set]
          have HN : Aside0 (∀ n ∈ ns.set i y, 0 ≤ n ∧ n ≤ 31) := ⟨fun n hn => by
            rcases List.mem_or_eq_of_mem_set hn with hn | rfl
            · exact HW2.out.2 n hn
            · exact hy31⟩
          clear d1 d2 HW2
          go_roundw
          case rel => exact ⟨i + 1, p1 + k, ns.set i y, by go_num, by omega, h3, HS.out, HREC.out, HN.out⟩
          case measure => simp [intOf]; omega
        · have K1 := Aside0.mk (rd_get_short wr g s p1 k HW.out.1.inf.rd (by omega) (by omega) (by omega))
          rw [bind_bad (get_bad h3)] at hrec
          subst hrec
          go_wp2_with fail
          refine K1.out.mono ?_
          rintro e w2 ⟨rfl, hd2⟩
          have HF2 := Aside0.mk (HW.out.1.fr.then_ (Fr.of_drawn hd2 _))
          clear hd2 HW K1 c1
          go_wp2_with fail
          repeat (rw [Exit.noGoto_ret])
          go_returns
          exact ⟨rfl, HF2.out⟩
      · have q1 : decide ((i : Int) < 3) = false := decide_eq_false (by omega)
        have q1n : decide (i < 3) = false := decide_eq_false hlt
        obtain rfl : i = 3 := by omega
        rw [Nat.sub_self, ownL] at hrec
        have HREC := Aside0.mk hrec
        clear hrec
        go_wp2_with fail
        go_meet
        exact ⟨p1, ns, hp1, HW.out.1, HREC.out, HW.out.2.2⟩
  case rest =>
    clear H1 HRES KI
    obtain ⟨p1, ns, hp1, HW⟩ := hcut
    obtain ⟨n0, n1, n2, rfl⟩ : ∃ n0 n1 n2, ns = [n0, n1, n2] := by
      match ns, HW.out.1.len with
      | [n0, n1, n2], _ => exact ⟨n0, n1, n2, rfl⟩
    have b0 := HW.out.2.2 n0 (by simp)
    have b1 := HW.out.2.2 n1 (by simp)
    have b2 := HW.out.2.2 n2 (by simp)
    obtain ⟨na, rfl⟩ := Int.eq_ofNat_of_zero_le b0.1
    obtain ⟨nb, rfl⟩ := Int.eq_ofNat_of_zero_le b1.1
    obtain ⟨nc, rfl⟩ := Int.eq_ofNat_of_zero_le b2.1
    have hrec := HW.out.2.1
    unfold ownRest at hrec
    simp only [List.getD_cons_zero, List.getD_cons_succ, Int.toNat_natCast] at hrec
    have d0 : wc.cell? ⟨a, 0, none⟩ = some (.int .i64 (na : Int)) := blk_cell HW.out.1.blk 0
    have d1 : wc.cell? ⟨a, 1, none⟩ = some (.int .i64 (nb : Int)) := blk_cell HW.out.1.blk 1
    have d2 : wc.cell? ⟨a, 2, none⟩ = some (.int .i64 (nc : Int)) := blk_cell HW.out.1.blk 2
    have HREC := Aside0.mk hrec
    have HM := Aside0.mk HW.out.1
    obtain ⟨near, hnear⟩ : ∃ near, near = na + 257 := ⟨_, rfl⟩
    obtain ⟨far, hfar⟩ : ∃ far, far = nb + 1 := ⟨_, rfl⟩
    have e0 : (na : Int) + 257 = (near : Int) := by omega
    have e1 : (nb : Int) + 1 = (far : Int) := by omega
    have HNF : Aside0 (near = na + 257 ∧ far = nb + 1) := ⟨hnear, hfar⟩
    clear hrec HW hnear hfar
    go_wp2_with fail
    go_big_region
    have HM1 := Aside0.mk (HM.out.inf.drawn (⟨1, rfl⟩ : Drawn0 wc wc.drew))
    have HF1 : Aside0 (Fr w wc.drew (SI B x g w)) := ⟨HM.out.fr.drew⟩
    have d2' : wc.drew.cell? ⟨a, 2, none⟩ = some (.int .i64 (nc : Int)) := d2
    clear d0 d1 d2 HM e0 e1
    generalize wc.drew = w2 at HM1 HF1 d2' ⊢
    by_cases hbad : 29 < na ∨ 29 < nb
    · have hr1 := HREC.out
      rw [if_pos (by omega)] at hr1
      unfold RM.err at hr1
      subst hr1
      by_cases hna : 286 < near
      · have q1 : decide (286 < (near : Int)) = true := decide_eq_true (by omega)
        have q1n : decide (286 < near) = true := decide_eq_true hna
        clear HREC hbad
        go_wp2_with fail
        go_returns
        exact ⟨rfl, HF1.out⟩
      · have q1 : decide (286 < (near : Int)) = false := decide_eq_false (by omega)
        have q1n : decide (286 < near) = false := decide_eq_false hna
        have hfb : 30 < far := by have := HNF.out; omega
        have q2 : decide (30 < (far : Int)) = true := decide_eq_true (by omega)
        have q2n : decide (30 < far) = true := decide_eq_true hfb
        clear HREC hbad
        go_wp2_with fail
        go_returns
        exact ⟨rfl, HF1.out⟩
    · have hr1 := HREC.out
      rw [if_neg (by omega)] at hr1
      have hnear : near ≤ 286 := by have := HNF.out; omega
      have hnear2 : 257 ≤ near := by have := HNF.out; omega
      have hfar : far ≤ 30 := by have := HNF.out; omega
      have hfar1 : 1 ≤ far := by have := HNF.out; omega
      rw [show na + nb + 258 = near + far by have := HNF.out; omega, show na + 257 = near from HNF.out.1.symm] at hr1
      have q1 : decide (286 < (near : Int)) = false := decide_eq_false (by omega)
      have q1n : decide (286 < near) = false := decide_eq_false (by omega)
      have q2 : decide (30 < (far : Int)) = false := decide_eq_false (by omega)
      have q2n : decide (30 < far) = false := decide_eq_false (by omega)
      obtain ⟨hd, hhd⟩ : ∃ hd, hd = nc + 4 := ⟨_, rfl⟩
      have e2 : (nc : Int) + 4 = (hd : Int) := by omega
      have hhd2 : hd ≤ 100 := by omega
      rw [← hhd] at hr1
      have KH := Aside0.mk (heads_calls w2 B x g hd s p1 o m HM1.out hs (Nat.le_trans hB HF1.out.size) hp1 hhd2)
      have HR1 := Aside0.mk hr1
      clear HREC hbad hr1 HNF hhd b0 b1 b2
      go_wp2_with fail
      refine KH.out.mono ?_
      rintro e w3 ⟨hl3, hf3⟩
      have HF3 := Aside0.mk (HF1.out.si hf3)
      cases hh : headsM hd s m p1 o with
      | bad c =>
        rw [hh] at hl3
        obtain rfl := hl3
        have hr2 := HR1.out
        rw [bind_bad hh] at hr2
        subst hr2
        have q4 : (c != 0) = true := by simpa using (NZ.heads hd).nz hh
        clear hf3 KH HR1 hh HM1 HF1 d2'
        go_wp2_with fail
        go_returns
        exact ⟨rfl, HF3.out⟩
      | ok l p2 o2 =>
        rw [hh] at hl3
        obtain ⟨ta, rfl, hT3, hml, hll, hi3⟩ := hl3
        have hr2 := HR1.out
        rw [bind_ok hh] at hr2
        have hg := (Good.heads hd).mono (s := s) (m := m) hp1 hh
        have ho2 := ((Good.heads hd).room (s := s) m hp1 hh ho ho).1
        have HI3 := Aside0.mk hi3
        have HT3 := Aside0.mk hT3
        have HML := Aside0.mk hml
        have hll2 : l.length ≤ 19 := by omega
        have hp2s := hg.2.1
        have HR2 := Aside0.mk hr2
        have e3 : (near : Int) + (far : Int) = ((near + far : Nat) : Int) := by omega
        clear hf3 KH HR1 hh HM1 HF1 d2' hT3 hml hll hi3 hr2 hg
        obtain ⟨mn, hmn⟩ : ∃ mn, mn = near + far := ⟨_, rfl⟩
        rw [← hmn] at e3 HR2
        have hmn2 : mn ≤ 320 := by omega
        have HMN := Aside0.mk hmn
        clear hmn
        have KW := Aside0.mk (row_calls w3 B w2.heap.size x g ta mn l s p2 o2 m HI3.out HT3.out HML.out hll2 hs (Nat.le_trans hB HF3.out.size) hp2s hmn2)
        go_wp2_with fail
        refine KW.out.mono ?_
        rintro e w4 ⟨hl4, hf4⟩
        have HF4 := Aside0.mk (HF3.out.si hf4)
        cases hh : rowM l mn 400 [] s m p2 o2 with
        | bad c =>
          rw [hh] at hl4
          obtain rfl := hl4
          have hr2 := HR2.out
          rw [bind_bad hh] at hr2
          subst hr2
          have q4 : (c != 0) = true := by simpa using (NZ.row l mn 400 []).nz hh
          clear hf4 KW HR2 hh HI3 HT3 HML HF3
          go_wp2_with fail
          go_returns
          exact ⟨rfl, HF4.out⟩
        | ok row p3 o3 =>
          rw [hh] at hl4
          obtain ⟨v4, rfl, hrw4, hi4⟩ := hl4
          have hr3 := HR2.out
          rw [bind_ok hh] at hr3
          obtain ⟨hrl, hrx, hp3, ho3⟩ := rowM_ok l (by omega) mn s m 400 [] p2 o2 row p3 o3 (by simp) (by simp) hp2s hh
          subst ho3
          have HI4 := Aside0.mk hi4
          have HRW4 := Aside0.mk hrw4
          obtain ⟨A4, c4, hv4, hrd4⟩ := hrw4.reads
          subst hv4
          have hc4 := (Row.kdC HRW4.out).2.1
          have hmnl : near + far = row.length := by rw [hrl]; exact HMN.out.symm
          obtain ⟨ad4, hA4, _⟩ := ReadsInt.at_ hrd4 ((256 : Nat) : Int) (by omega) (by omega)
          subst hA4
          obtain ⟨rg, hrg⟩ : ∃ rg, ad4 = ⟨rg, 0, none⟩ := by
            have h2 := hrw4.2
            rcases h2 with ⟨h2, _⟩ | ⟨g2, cap2, cur2, h2, _⟩
            · cases h2
            · injection h2 with h2 _ _
              injection h2 with h2
              exact ⟨g2, h2⟩
          subst hrg
          have HRD4 := Aside0.mk hrd4
          have HR3 := Aside0.mk hr3
          have HX4 := Aside0.mk hrx
          have HRL := Aside0.mk hmnl
          have hnle : near ≤ row.length := by omega
          have hnle2 : near ≤ c4 := by omega
          have h256 : 256 < row.length := by omega
          have hcne : ¬ c4 = near := by omega
          clear hf4 KW HR2 hh HI3 HT3 HML HF3 hrw4 hi4 hrd4 hr3 hrx hrl HMN hmnl
          go_wp2_with fail
          have htl : (row.take near).length = near := by rw [List.length_take]; omega
          have KC := check_calls (some ⟨rg, 0, none⟩) near c4 (row.take near) w4 htl.symm (reads_take HRD4.out near hnle) hnle2
          obtain ⟨ck, hck⟩ : ∃ ck, ck = chkF (row.take near) := ⟨_, rfl⟩
          rw [← hck] at KC
          have KC := Aside0.mk KC
          have HTL := Aside0.mk htl
          have HCK := Aside0.mk hck
          clear htl hck
          refine KC.out.mono ?_
          rintro e w5 ⟨rfl, hb5⟩
          have HI5 := Aside0.mk (HI4.out.below hb5)
          have HRW5 := Aside0.mk (HRW4.out.below hb5)
          have HRD5 := Aside0.mk (HRD4.out.below hb5)
          have HF5 := Aside0.mk (HF4.out.then_ (Fr.of_below hb5 _))
          clear hb5 KC HI4 HRW4 HRD4 HF4
          by_cases hc0 : ck = 0
          · subst hc0
            obtain ⟨y, hy⟩ : ∃ y, y = row.getD 256 0 := ⟨_, rfl⟩
            have dy : w5.cell? ⟨rg, 256, none⟩ = some (.int .i64 y) := by
              obtain ⟨ad', e, hc⟩ := HRD5.out.2.2 (by omega)
              injection e with e
              subst e
              have := hc 256 (by omega)
              rw [Addr.add_lit, Nat.zero_add] at this
              rw [this, hy]
            have HY := Aside0.mk hy
            clear hy
            by_cases hy0 : y = 0
            · subst hy0
              have hr4 := HR3.out
              rw [if_pos (.inr (.inl HY.out.symm))] at hr4
              unfold RM.err at hr4
              subst hr4
              go_wp2_with fail
              go_returns
              exact ⟨rfl, HF5.out⟩
            · have q5 : (y == 0) = false := beq_eq_false_iff_ne.2 hy0
              have hdl : (row.drop near).length = row.length - near := List.length_drop
              have RD := fun (W : World) (h : ReadsInt W .i64 (some ⟨rg, 0, none⟩) row.length row) => reads_drop h near hnle (fun j => by simp only [Addr.add_lit, Nat.zero_add])
              rw [show (⟨rg, 0, none⟩ : Addr).add near = ⟨rg, near, none⟩ by rw [Addr.add_lit, Nat.zero_add]] at RD
              have hfl : row.length - near ≤ 30 := by have := HRL.out; omega
              have hxd : ∀ x ∈ row.drop near, 0 ≤ x ∧ x ≤ 320 := fun x hx => HX4.out x (List.mem_of_mem_drop hx)
              have KQ := reaches_calls (some ⟨rg, near, none⟩) (c4 - near) (row.drop near) w5 (RD w5 HRD5.out) (by rw [hdl]; omega) hxd (by rw [hdl]; omega)
              rw [hdl] at KQ
              have KQ := Aside0.mk KQ
              have HDL := Aside0.mk hdl
              have HXD := Aside0.mk hxd
              have HRD := Aside0.mk RD
              clear hdl RD hxd
              obtain ⟨rb, hrb⟩ : ∃ rb, rb = reachB (row.drop near) := ⟨_, rfl⟩
              rw [← hrb] at KQ
              have HRB := Aside0.mk hrb
              clear hrb
              go_wp2_with fail
              refine KQ.out.mono ?_
              rintro e w6 ⟨rfl, hb6⟩
              have HI6 := Aside0.mk (HI5.out.below hb6)
              have HRD6 := Aside0.mk (HRD5.out.below hb6)
              have HF6 := Aside0.mk (HF5.out.then_ (Fr.of_below hb6 _))
              clear hb6 KQ HI5 HRW5 HRD5 HF5 dy
              cases rb with
              | false =>
                have hr4 := HR3.out
                rw [if_pos (.inr (.inr HRB.out.symm))] at hr4
                unfold RM.err at hr4
                subst hr4
                go_wp2_with fail
                go_returns
                exact ⟨rfl, HF6.out⟩
              | true =>
                have hr4 := HR3.out
                rw [if_neg (by rintro (h | h | h); exact h HCK.out.symm; exact hy0 (HY.out.trans h); rw [← HRB.out] at h; cases h)] at hr4
                have hmN : mayF (row.take near) = 0 := chk_may HCK.out.symm
                have hmF : mayF (row.drop near) = 0 := reach_may HRB.out.symm (fun x hx => (HXD.out x hx).1) (by rw [HDL.out]; omega)
                have K1 := new_ok (some ⟨rg, 0, none⟩) c4 (row.take near) w6 (reads_take HRD6.out near hnle) (by rw [HTL.out]; exact hnle2) hmN
                rw [HTL.out] at K1
                have K2 := fun (W : World) (h : Below w6.heap.size w6 W) => new_ok (some ⟨rg, near, none⟩) (c4 - near) (row.drop near) W (HRD.out W (HRD6.out.below h)) (by rw [HDL.out]; omega) hmF
                rw [HDL.out] at K2
                have K1 := Aside0.mk K1
                have K2 := Aside0.mk K2
                have HR4 := Aside0.mk hr4
                have HMM : Aside0 (_ ∧ _) := ⟨hmN, hmF⟩
                clear hr4 hmN hmF HR3 HCK HY hy0 q5 HRB
                go_wp2_with fail
                refine K1.out.mono ?_
                rintro e w7 ⟨tn, rfl, hT7, htn, hb7⟩
                have HI7 := Aside0.mk (HI6.out.below hb7)
                have HT7 : Aside0 (Tr w7 w6.heap.size tn (row.take near)) := ⟨hT7⟩
                have HB7 := Aside0.mk hb7
                clear hT7 htn hb7 K1 HI6
                go_wp2_with fail
                refine (K2.out w7 HB7.out).mono ?_
                rintro e w8 ⟨tf, rfl, hT8, htf, hb8⟩
                have HI8 := Aside0.mk (HI7.out.below hb8)
                have HT8 : Aside0 (Tr w8 w6.heap.size tn (row.take near) ∧ Tr w8 w7.heap.size tf (row.drop near)) := ⟨TreeAt.below HT7.out hb8, hT8⟩
                have HF8 := Aside0.mk (HF6.out.then_ (Fr.of_below (HB7.out.trans (hb8.mono HB7.out.size)) _))
                clear hT8 htf hb8 K2 HI7 HT7 HB7 HF6
                go_wp2_with fail
                refine (coded_calls w8 B w6.heap.size w7.heap.size x g tn tf (row.take near) (row.drop near) s p3 o3 m bigK HI8.out HT8.out.1 HT8.out.2 HMM.out.1 HMM.out.2 hs (Nat.le_trans hB HF8.out.size) hm0 hm ho2 hp3 (by unfold bigK; omega)).mono ?_
                rintro e w9 ⟨hl9, hf9⟩
                have HF9 := Aside0.mk (HF8.out.si hf9)
                cases hh : codedM (row.take near) (row.drop near) bigK s m p3 o3 with
                | bad c =>
                  rw [hh] at hl9
                  obtain rfl := hl9
                  have hr5 := HR4.out
                  rw [hh] at hr5
                  subst hr5
                  go_wp2_with fail
                  go_returns
                  exact ⟨rfl, HF9.out⟩
                | ok u q r =>
                  rw [hh] at hl9
                  obtain ⟨rfl, hi9⟩ := hl9
                  have hr5 := HR4.out
                  rw [hh] at hr5
                  subst hr5
                  go_wp2_with fail
                  go_returns
                  exact ⟨⟨rfl, hi9⟩, HF9.out⟩
          · have q5 : (ck != 0) = true := by simpa using hc0
            have hr4 := HR3.out
            rw [if_pos (.inl (by rw [← HCK.out]; exact hc0))] at hr4
            unfold RM.err at hr4
            subst hr4
            go_wp2_with fail
            go_returns
            exact ⟨rfl, HF5.out⟩
end Go.Proofs.YtghoifkaikddlaaGreat.Hand
namespace Go.Proofs.YtghoifkaikddlaaGreat.Hand
open Go.RowKit Go.Proofs.YtghoifkaikddlaaGreatW.PrintWords Go.Proofs.YtghoifkaikddlaaGreatW.PrintLast Go.Proofs.YtghoifkaikddlaaGreatW.PrintMore Go.Proofs.YtghoifkaikddlaaGreat.Num Go.Proofs.YtghoifkaikddlaaGreat.Bits
set_option linter.unusedVariables false
set_option linter.unusedSimpArgs false
def BkLeft (r : Res Int) (w' : World) (B x g : Nat) (s : ByteArray) (m : Int) (e : Ending) : Prop := match r with
  | .bad c => ∃ b, e = .returned (.tuple #[.bool b, .int .i64 c])
  | .ok last q r => e = .returned (.tuple #[.bool (last == 1), .int .i64 0]) ∧ InfAt w' B x g s q r m
def KdLeft (r : Res Unit) (er : Int) (w' : World) (B x g : Nat) (s : ByteArray) (m : Int) : Prop := match r with
  | .bad c => er = c
  | .ok _ q r => er = 0 ∧ InfAt w' B x g s q r m
def kindM (kind : Int) : RM Unit := if kind = 0 then storedM else if kind = 1 then codedM fixLit fixDist bigK else if kind = 2 then ownM else RM.err 4
theorem Good.kind (k : Int) : Good (kindM k) := Good.ite Good.stored (Good.ite (Good.coded _ _ _) (Good.ite Good.own (Good.err _)))
theorem NZ.kind (k : Int) : NZ (kindM k) := NZ.ite NZ.stored (NZ.ite (NZ.coded _ _ _) (NZ.ite NZ.own (NZ.err _ (by decide))))
set_option maxRecDepth 100000 in
set_option maxHeartbeats 4000000 in
theorem block_calls (w : World) (B x g : Nat) (s : ByteArray) (p : Nat) (o : List Int) (m : Int) (h : InfAt w B x g s p o m) (hs : s.size ≤ 1000000) (hB : B ≤ w.heap.size) (hm0 : 0 ≤ m) (hm : m ≤ 10000000) (ho : (o.length : Int) ≤ m) (hp : p ≤ 8 * s.size) :
    Calls Tryz.prog 141 #[.pointer (some ⟨x, 0, none⟩)] w fun e w' => BkLeft (blockM s m p o) w' B x g s m e ∧ Fr w w' (SI B x g w) := by
  obtain ⟨res, hres⟩ : ∃ res, res = blockM s m p o := ⟨_, rfl⟩
  rw [← hres]
  rw [show blockM = (getM 1).bind fun last => (getM 2).bind fun kind => (kindM kind).bind fun _ => RM.ret last from rfl] at hres
  have H0 := Aside0.mk h
  obtain ⟨v0, hb0, _⟩ := h.blk
  have c0 : w.cell? ⟨x, 0, none⟩ = some (.pointer (some ⟨g, 0, none⟩)) := blk_cell hb0 0
  have HRES := Aside0.mk hres
  clear hb0 h hres
  by_cases h1 : p + 1 ≤ 8 * s.size
  · have hr1 := HRES.out
    rw [bind_ok (get_ok h1)] at hr1
    have K1 := rd_get w g s p 1 H0.out.rd (by omega) (by omega) h1
    rw [show ((1 : Nat) : Int) = 1 from rfl] at K1
    obtain ⟨last, hlast⟩ : ∃ last, last = val s p 1 := ⟨_, rfl⟩
    rw [← hlast] at K1 hr1
    have K1 := Aside0.mk K1
    have HR1 := Aside0.mk hr1
    clear hlast hr1 HRES
    go_enter Tryz.func141, Tryz.ntmps141
    go_wp2_with fail
    refine K1.out.mono ?_
    rintro e w2 ⟨rfl, h2, f2⟩
    have HI2 := Aside0.mk (H0.out.read h2 f2)
    have HF2 : Aside0 (Fr w w2 (SI B x g w)) := ⟨f2.siR⟩
    clear h2 f2 K1 H0 c0
    obtain ⟨v2, hb2, _⟩ := HI2.out.blk
    have c2 : w2.cell? ⟨x, 0, none⟩ = some (.pointer (some ⟨g, 0, none⟩)) := blk_cell hb2 0
    clear hb2
    obtain ⟨p2, hp2⟩ : ∃ p2, p2 = p + 1 := ⟨_, rfl⟩
    rw [← hp2] at HI2 HR1 h1
    by_cases h2 : p2 + 2 ≤ 8 * s.size
    · have hr2 := HR1.out
      rw [bind_ok (get_ok h2)] at hr2
      have K2 := rd_get w2 g s p2 2 HI2.out.rd (by omega) (by omega) h2
      rw [show ((2 : Nat) : Int) = 2 from rfl] at K2
      have hv := val_range s p2 2
      obtain ⟨kd, hkd⟩ := Int.eq_ofNat_of_zero_le hv.1
      rw [hkd] at K2 hr2
      have K2 := Aside0.mk K2
      have HR2 := Aside0.mk hr2
      clear hr2 HR1 hv hkd
      go_wp2_with fail
      refine K2.out.mono ?_
      rintro e w3 ⟨rfl, h3, f3⟩
      have HI3 := Aside0.mk (HI2.out.read h3 f3)
      have HF3 := Aside0.mk (HF2.out.si f3.siR)
      clear h3 f3 K2 HI2 HF2 c2
      have hB3 : B ≤ w3.heap.size := Nat.le_trans hB HF3.out.size
      go_upto_block 0 with fail
      obtain ⟨kr, hkr⟩ : ∃ kr, kr = kindM kd s m (p2 + 2) o := ⟨_, rfl⟩
      have HKR := Aside0.mk hkr
      clear hkr
      go_cut [5] (fun v5 wc => ∃ er : Int, v5 = .int .i64 er ∧ Aside0 (KdLeft kr er wc B x g s m ∧ Fr w wc (SI B x g w)))
      case first =>
        by_cases k0 : kd = 0
        · subst k0
          have KS := Aside0.mk (stored_calls w3 B x g s (p2 + 2) o m HI3.out hs hB3 hm0 hm ho h2)
          have HK2 : Aside0 (kr = storedM s m (p2 + 2) o) := HKR
          go_wp2_with fail
          refine KS.out.mono ?_
          rintro e w4 ⟨hl4, hf4⟩
          have HF4 := Aside0.mk (HF3.out.si hf4)
          cases hh : storedM s m (p2 + 2) o with
          | bad c =>
            rw [hh] at hl4
            obtain rfl := hl4
            go_wp2_with fail
            go_meet
            exact ⟨c, rfl, by rw [HK2.out, hh]; exact ⟨rfl, HF4.out⟩⟩
          | ok u q r =>
            rw [hh] at hl4
            obtain ⟨rfl, hi4⟩ := hl4
            go_wp2_with fail
            go_meet
            exact ⟨0, rfl, by rw [HK2.out, hh]; exact ⟨⟨rfl, hi4⟩, HF4.out⟩⟩
        · have q1 : ((kd : Int) == 0) = false := beq_eq_false_iff_ne.2 (by omega)
          have q1n : (kd == 0) = false := beq_eq_false_iff_ne.2 k0
          by_cases k1 : kd = 1
          · subst k1
            have KS := Aside0.mk (fixed_calls w3 B x g s (p2 + 2) o m bigK HI3.out hs hB3 hm0 hm ho h2 (by unfold bigK; omega))
            have HK2 : Aside0 (kr = codedM fixLit fixDist bigK s m (p2 + 2) o) := HKR
            go_wp2_with fail
            refine KS.out.mono ?_
            rintro e w4 ⟨hl4, hf4⟩
            have HF4 := Aside0.mk (HF3.out.si hf4)
            cases hh : codedM fixLit fixDist bigK s m (p2 + 2) o with
            | bad c =>
              rw [hh] at hl4
              obtain rfl := hl4
              go_wp2_with fail
              go_meet
              exact ⟨c, rfl, by rw [HK2.out, hh]; exact ⟨rfl, HF4.out⟩⟩
            | ok u q r =>
              rw [hh] at hl4
              obtain ⟨rfl, hi4⟩ := hl4
              go_wp2_with fail
              go_meet
              exact ⟨0, rfl, by rw [HK2.out, hh]; exact ⟨⟨rfl, hi4⟩, HF4.out⟩⟩
          · have q2 : ((kd : Int) == 1) = false := beq_eq_false_iff_ne.2 (by omega)
            have q2n : (kd == 1) = false := beq_eq_false_iff_ne.2 k1
            by_cases k2 : kd = 2
            · subst k2
              have KS := Aside0.mk (own_calls w3 B x g s (p2 + 2) o m HI3.out hs hB3 hm0 hm ho h2)
              have HK2 : Aside0 (kr = ownM s m (p2 + 2) o) := HKR
              go_wp2_with fail
              refine KS.out.mono ?_
              rintro e w4 ⟨hl4, hf4⟩
              have HF4 := Aside0.mk (HF3.out.si hf4)
              cases hh : ownM s m (p2 + 2) o with
              | bad c =>
                rw [hh] at hl4
                obtain rfl := hl4
                go_wp2_with fail
                go_meet
                exact ⟨c, rfl, by rw [HK2.out, hh]; exact ⟨rfl, HF4.out⟩⟩
              | ok u q r =>
                rw [hh] at hl4
                obtain ⟨rfl, hi4⟩ := hl4
                go_wp2_with fail
                go_meet
                exact ⟨0, rfl, by rw [HK2.out, hh]; exact ⟨⟨rfl, hi4⟩, HF4.out⟩⟩
            · have q3 : ((kd : Int) == 2) = false := beq_eq_false_iff_ne.2 (by omega)
              have q3n : (kd == 2) = false := beq_eq_false_iff_ne.2 k2
              have hk : kindM (kd : Int) = RM.err 4 := by unfold kindM; rw [if_neg (by omega), if_neg (by omega), if_neg (by omega)]
              have HK2 : Aside0 (kr = .bad 4) := ⟨by rw [HKR.out, hk]; rfl⟩
              clear hk
              go_wp2_with fail
              go_meet
              exact ⟨4, rfl, by rw [HK2.out]; exact ⟨rfl, HF3.out⟩⟩
      case rest =>
        clear HI3 HF3
        obtain ⟨er, rfl, HC⟩ := hcut
        go_wp2_with fail
        go_returns
        have hr3 := HR2.out
        cases hh : kindM kd s m (p2 + 2) o with
        | bad c =>
          rw [bind_bad hh] at hr3
          have hc := HC.out
          rw [HKR.out, hh] at hc
          obtain ⟨hc1, hf⟩ := hc
          obtain rfl := hc1
          subst hr3
          exact ⟨⟨_, rfl⟩, hf⟩
        | ok u q r =>
          rw [bind_ok hh] at hr3
          have hc := HC.out
          rw [HKR.out, hh] at hc
          obtain ⟨⟨rfl, hi⟩, hf⟩ := hc
          unfold RM.ret at hr3
          subst hr3
          exact ⟨⟨rfl, hi⟩, hf⟩
    · have hr2 := HR1.out
      rw [bind_bad (get_bad h2)] at hr2
      have K2 := rd_get_short w2 g s p2 2 HI2.out.rd (by omega) (by omega) (by omega)
      rw [show ((2 : Nat) : Int) = 2 from rfl] at K2
      have K2 := Aside0.mk K2
      subst hr2
      go_wp2_with fail
      refine K2.out.mono ?_
      rintro e w3 ⟨rfl, hd3⟩
      have HF3 := Aside0.mk (HF2.out.then_ (Fr.of_drawn hd3 _))
      clear hd3 K2 HI2 HF2 c2
      go_wp2_with fail
      go_returns
      exact ⟨⟨_, rfl⟩, HF3.out⟩
  · have hr1 := HRES.out
    rw [bind_bad (get_bad h1)] at hr1
    have K1 := rd_get_short w g s p 1 H0.out.rd (by omega) (by omega) (by omega)
    rw [show ((1 : Nat) : Int) = 1 from rfl] at K1
    have K1 := Aside0.mk K1
    subst hr1
    go_enter Tryz.func141, Tryz.ntmps141
    go_wp2_with fail
    refine K1.out.mono ?_
    rintro e w3 ⟨rfl, hd3⟩
    have HF3 : Aside0 (Fr w w3 (SI B x g w)) := ⟨Fr.of_drawn hd3 _⟩
    clear hd3 K1 c0
    go_wp2_with fail
    go_returns
    exact ⟨⟨_, rfl⟩, HF3.out⟩
end Go.Proofs.YtghoifkaikddlaaGreat.Hand
namespace Go.Proofs.YtghoifkaikddlaaGreat.Hand
open Go.RowKit Go.Proofs.YtghoifkaikddlaaGreatW.PrintWords Go.Proofs.YtghoifkaikddlaaGreatW.PrintLast Go.Proofs.YtghoifkaikddlaaGreatW.PrintMore Go.Proofs.YtghoifkaikddlaaGreat.Num Go.Proofs.YtghoifkaikddlaaGreat.Bits
set_option linter.unusedVariables false
set_option linter.unusedSimpArgs false
def InfOut (r : Res Unit) : ByteArray × Int × Int := match r with
  | .bad e => (⟨#[]⟩, 0, e)
  | .ok _ p o => (strOfNums o, (rdAt p : Int), 0)
set_option maxRecDepth 100000 in
set_option maxHeartbeats 4000000 in
theorem inflate_calls (w : World) (s : ByteArray) (m : Int) (hs : s.size ≤ 1000000) (hm : m ≤ 10000000) :
    Calls Tryz.prog 107 #[.string s, .int .i64 m] w fun e w' => e = .returned (.tuple #[.string (inflF s m).1, .int .i64 (inflF s m).2.1, .int .i64 (inflF s m).2.2]) ∧ Below w.heap.size w w' := by
  by_cases hm0 : m < 0
  · have q1 : decide (m < 0) = true := decide_eq_true hm0
    have e1 : inflF s m = (⟨#[]⟩, 0, 2) := by unfold inflF; rw [if_pos hm0]
    rw [e1]
    clear hm0 e1
    go_enter Tryz.func107, Tryz.ntmps107
    go_wp2_with fail
    go_returns
    exact ⟨rfl, Below.refl _ _⟩
  · have q1 : decide (m < 0) = false := decide_eq_false hm0
    obtain ⟨K, hK⟩ : ∃ K, K = bigK := ⟨_, rfl⟩
    have hK1 : 8 * s.size < K := by rw [hK]; unfold bigK; omega
    obtain ⟨res, hres⟩ : ∃ res, res = infM K s m 0 [] := ⟨_, rfl⟩
    have e1 : inflF s m = InfOut res := by unfold inflF InfOut; rw [if_neg hm0, hres, hK]; rfl
    rw [e1]
    have HRES := Aside0.mk hres
    have hm1 : 0 ≤ m := by omega
    clear hK hres e1 hm0
    go_enter Tryz.func107, Tryz.ntmps107
    go_wp2_with fail
    refine (rd_new s w).mono ?_
    rintro e w1 ⟨rfl, h1, hb1⟩
    obtain ⟨g, hg⟩ : ∃ g, g = w.heap.size := ⟨_, rfl⟩
    obtain ⟨x, hx⟩ : ∃ x, x = w1.heap.size := ⟨_, rfl⟩
    have hbx := below_alloc (Below.refl w1.heap.size w1) (.cells #[.pointer (some ⟨w.heap.size, 0, none⟩), .slice none 0 0, .int .i64 m] 166)
    have H1 : Aside0 (InfAt (w1.alloc (.cells #[.pointer (some ⟨w.heap.size, 0, none⟩), .slice none 0 0, .int .i64 m] 166)) w.heap.size w1.heap.size w.heap.size s 0 [] m ∧ Below w.heap.size w (w1.alloc (.cells #[.pointer (some ⟨w.heap.size, 0, none⟩), .slice none 0 0, .int .i64 m] 166))) :=
      ⟨⟨⟨_, heap_alloc_new w1 _, Row.nil _ _ _ _⟩, ⟨blk_below h1.blk hbx, h1.le⟩⟩, hb1.trans (hbx.mono hb1.size)⟩
    have hgx : w.heap.size ≤ g ∧ w.heap.size ≤ x := by have := hb1.size; omega
    have HGX := Aside0.mk hgx
    have HG := Aside0.mk hg
    go_wp2_with fail
    rw [← hg, ← hx] at H1 ⊢
    clear h1 hbx hb1 hgx hx hg
    generalize World.alloc w1 _ = W1 at H1 ⊢
    go_loopg [] K (fun kq wr => ∃ (p1 : Nat) (o1 : List Int), p1 ≤ 8 * s.size ∧ 8 * s.size < p1 + kq ∧ (o1.length : Int) ≤ m ∧ Aside0 (InfAt wr g x g s p1 o1 m ∧ Below w.heap.size w wr ∧ res = infM kq s m p1 o1))
    case atStart => exact ⟨0, [], by omega, by omega, by simpa using hm1, H1.out.1, by rw [← HG.out]; exact H1.out.2, HRES.out⟩
    case round =>
      clear H1 HRES
      obtain ⟨p1, o1, hp1, hk1, ho1, HW⟩ := hrel
      cases gk with
      | zero => exact absurd hk1 (by omega)
      | succ k1 =>
        have hrec := HW.out.2.2
        rw [infM] at hrec
        have hgw : g ≤ wr.heap.size := by rw [HG.out]; exact HW.out.2.1.size
        have KB := Aside0.mk (block_calls wr g x g s p1 o1 m HW.out.1 hs hgw hm1 hm ho1 hp1)
        have HREC := Aside0.mk hrec
        clear hrec
        go_wp2_with fail
        refine KB.out.mono ?_
        rintro e w2 ⟨hl2, hf2⟩
        have HB2 := Aside0.mk (HW.out.2.1.trans (hf2.siBelow HGX.out.2 HGX.out.1 HGX.out.1 HW.out.2.1.size))
        cases hh : blockM s m p1 o1 with
        | bad c =>
          rw [hh] at hl2
          obtain ⟨b, rfl⟩ := hl2
          have hr2 := HREC.out
          rw [bind_bad hh] at hr2
          subst hr2
          have q2 : (c != 0) = true := by simpa using NZ.block.nz hh
          clear hf2 KB HREC hh HW
          go_wp2_with fail
          repeat (rw [Exit.noGoto_ret])
          go_returns
          exact ⟨rfl, HB2.out⟩
        | ok last p2 o2 =>
          rw [hh] at hl2
          obtain ⟨rfl, hi2⟩ := hl2
          have hr2 := HREC.out
          rw [bind_ok hh] at hr2
          have hgm := Good.block.mono (s := s) (m := m) hp1 hh
          have hgr := (Good.block.room (s := s) m hp1 hh ho1 ho1).1
          have hadv : p1 + 1 ≤ p2 := by
            have hh2 := hh
            unfold blockM at hh2
            by_cases h1 : p1 + 1 ≤ 8 * s.size
            · rw [bind_ok (get_ok h1)] at hh2
              have hG : Good ((getM 2).bind fun kind => (kindM kind).bind fun _ => RM.ret (val s p1 1)) := (Good.get _).bind fun _ => (Good.kind _).bind fun _ => Good.ret _
              exact (hG.mono h1 hh2).1
            · rw [bind_bad (get_bad h1)] at hh2; cases hh2
          have HI2 := Aside0.mk hi2
          have HREC2 := Aside0.mk hr2
          clear hf2 KB HREC hh HW hi2 hr2
          by_cases hl : last = 1
          · have q2 : (last == 1) = true := beq_iff_eq.2 hl
            have hr3 := HREC2.out
            rw [if_pos hl] at hr3
            unfold RM.ret at hr3
            have HR3 := Aside0.mk hr3
            have hp2s := hgm.2.1
            clear hl hr3 HREC2 hgm hadv
            obtain ⟨v2, hb2, hr2⟩ := HI2.out.blk
            obtain ⟨A2, n2, k2, hv2, hn2⟩ := hr2.shape
            subst hv2
            have c0 : w2.cell? ⟨x, 0, none⟩ = some (.pointer (some ⟨g, 0, none⟩)) := blk_cell hb2 0
            have c1 : w2.cell? ⟨x, 1, none⟩ = some (.slice A2 n2 k2) := blk_cell hb2 1
            have HS := Aside0.mk (fun (W : World) (h : Drawn0 w2 W) => (show Row W g 5 .u8 (.slice A2 n2 k2) o2 by obtain ⟨n, rfl⟩ := h.out; exact hr2).str (P := Tryz.prog) (src := 59) (dst := 9) Tryz.underlying59 Tryz.underlying5 Tryz.underlying9)
            have KA := Aside0.mk (fun (W : World) (h : Drawn0 w2 W) => rd_at W g s p2 (HI2.out.rd.drawn h) (by omega))
            obtain ⟨st, hst⟩ : ∃ st, st = strOfNums o2 := ⟨_, rfl⟩
            rw [← hst] at HS
            have HST := Aside0.mk hst
            clear hst hb2 hr2 hn2
            have k0 := HS.out w2.drew ⟨1, rfl⟩
            have HD : Aside0 (∀ W, Drawn0 w2.drew W → Drawn0 w2 W) := ⟨fun W h => by obtain ⟨n, rfl⟩ := h.out; exact Drawn0.step (w' := w2.drewN 1) ⟨⟨1, rfl⟩⟩ n⟩
            have e1 : Int.tdiv ((p2 : Int) + 7) 8 = ((rdAt p2 : Nat) : Int) := by rw [td _ (by omega)]; unfold rdAt; omega
            go_wp2_with fail
            go_region_held3 (fun w' => w'.cell? ⟨x, 0, none⟩ = some (.pointer (some ⟨g, 0, none⟩)) ∧ w'.cell? ⟨x, 1, none⟩ = some (.slice A2 n2 k2) ∧ (convert 59 9 (.slice A2 n2 k2)).run Tryz.prog w' = .ok (.string st) w') (first | exact ⟨c0, c1, k0⟩ | exact ⟨e2, e3, e4⟩) ((go_at_call 142; refine (KA.out _ ⟨1, rfl⟩).mono ?_; rintro e w3 ⟨rfl, hd3⟩; have hd4 : Drawn0 w2 w3 := HD.out _ hd3; have e2 : w3.cell? ⟨x, 0, none⟩ = some (.pointer (some ⟨g, 0, none⟩)) := (by obtain ⟨n, rfl⟩ := hd4.out; exact c0); have e3 : w3.cell? ⟨x, 1, none⟩ = some (.slice A2 n2 k2) := (by obtain ⟨n, rfl⟩ := hd4.out; exact c1); have e4 := HS.out w3 hd4))
            go_wp2_with fail
            repeat (rw [Exit.noGoto_ret])
            go_returns
            have hw : IntKind.i64.wrap ((IntKind.i64.wrap ((p2 : Int) + 7)).tdiv 8) = ((rdAt p2 : Nat) : Int) := by
              rw [IntWalk.i64_in ((p2 : Int) + 7) (by omega), e1, IntWalk.i64_in _ (by unfold rdAt; omega)]
            have hB3 : Below w.heap.size w w3 := by obtain ⟨n, rfl⟩ := hd4.out; exact pw_below_drewN HB2.out n
            refine ⟨?_, hB3⟩
            have hr : InfOut res = (st, ((rdAt p2 : Nat) : Int), 0) := by rw [HR3.out]; unfold InfOut; rw [HST.out]
            rw [hr, ← hw]
            rfl
          · have q2 : (last == 1) = false := beq_eq_false_iff_ne.2 hl
            have hr3 := HREC2.out
            rw [if_neg hl] at hr3
            have HR3 := Aside0.mk hr3
            clear hl hr3 HREC2
            go_wp2_with fail
            go_roundg k1
            case measure => omega
            case rel => exact ⟨p2, o2, hgm.2.1, by omega, hgr, HI2.out, HB2.out, HR3.out⟩
end Go.Proofs.YtghoifkaikddlaaGreat.Hand
namespace Go.Proofs.YtghoifkaikddlaaGreat.Hand
open Go.RowKit Go.Proofs.YtghoifkaikddlaaGreatW.PrintWords Go.Proofs.YtghoifkaikddlaaGreatW.PrintLast Go.Proofs.YtghoifkaikddlaaGreatW.PrintMore Go.Proofs.YtghoifkaikddlaaGreat.Num Go.Proofs.YtghoifkaikddlaaGreat.Bits
set_option linter.unusedVariables false
set_option linter.unusedSimpArgs false
set_option maxRecDepth 100000
theorem blk1 : inflF ⟨#[1, 1, 0, 254, 255, 97, 122]⟩ 1 = (⟨#[97]⟩, 6, 0) := by decide +kernel
theorem NZ.inf : ∀ k, NZ (infM k)
  | 0 => NZ.err _ (by decide)
  | k + 1 => NZ.block.bind fun _ => NZ.ite (NZ.ret _) (NZ.inf k)
theorem block_adv {s : ByteArray} {m : Int} {p p2 : Nat} {o o2 : List Int} {last : Int} (hh : blockM s m p o = .ok last p2 o2) : p + 1 ≤ p2 := by
  unfold blockM at hh
  by_cases h1 : p + 1 ≤ 8 * s.size
  · rw [bind_ok (get_ok h1)] at hh
    have hG : Good ((getM 2).bind fun kind => (kindM kind).bind fun _ => RM.ret (val s p 1)) := (Good.get _).bind fun _ => (Good.kind _).bind fun _ => Good.ret _
    exact (hG.mono h1 hh).1
  · rw [bind_bad (get_bad h1)] at hh; cases hh
theorem inf_adv {s : ByteArray} {m : Int} {p q : Nat} {o r : List Int} {k : Nat} (hp : p ≤ 8 * s.size) (h : infM k s m p o = .ok () q r) : p + 1 ≤ q := by
  cases k with
  | zero => cases h
  | succ k =>
    rw [infM] at h
    cases hh : blockM s m p o with
    | bad c => rw [bind_bad hh] at h; cases h
    | ok last p2 o2 =>
      rw [bind_ok hh] at h
      have h1 := block_adv hh
      have h2 := Good.block.mono hp hh
      have hG : Good (if last = 1 then RM.ret () else infM k) := Good.ite (Good.ret _) (Good.inf k)
      have h3 := hG.mono h2.2.1 h
      omega
theorem inflF_cases (s : ByteArray) (m : Int) (hm : 0 ≤ m) : (∃ e, e ≠ 0 ∧ infM bigK s m 0 [] = .bad e ∧ inflF s m = (⟨#[]⟩, 0, e)) ∨ (∃ p o, infM bigK s m 0 [] = .ok () p o ∧ inflF s m = (strOfNums o, (rdAt p : Int), 0) ∧ 1 ≤ p ∧ p ≤ 8 * s.size ∧ (o.length : Int) ≤ m) := by
  cases h : infM bigK s m 0 [] with
  | bad e => exact .inl ⟨e, (NZ.inf _).nz h, rfl, by unfold inflF; rw [if_neg (by omega), h]⟩
  | ok u p o =>
    have h1 := inf_adv (Nat.zero_le _) h
    have h2 := (Good.inf bigK).mono (Nat.zero_le _) h
    have h3 := ((Good.inf bigK).room m (Nat.zero_le _) h (by simpa using hm) (by simpa using hm)).1
    exact .inr ⟨p, o, rfl, by unfold inflF; rw [if_neg (by omega), h], by omega, h2.2.1, h3⟩
theorem agree_more (t more : ByteArray) : Agree t (t ++ more) := by
  intro i h1 h2
  unfold bitA
  rw [bt_cat_left _ _ _ (by rw [Int.toNat_natCast]; omega)]
theorem inflF_room {s : ByteArray} {m : Int} {p : Nat} {o : List Int} (m' : Int) (hm : 0 ≤ m) (h : infM bigK s m 0 [] = .ok () p o) (hm' : 0 ≤ m') : inflF s m' = if (o.length : Int) ≤ m' then (strOfNums o, (rdAt p : Int), 0) else (⟨#[]⟩, 0, 7) := by
  have h1 := ((Good.inf bigK).room m' (Nat.zero_le _) h (by simpa using hm) (by simpa using hm')).2
  unfold inflF
  rw [if_neg (by omega), h1]
  by_cases hh : (o.length : Int) ≤ m'
  · rw [if_pos hh, if_pos hh]
  · rw [if_neg hh, if_neg hh]
end Go.Proofs.YtghoifkaikddlaaGreat.Hand
