/- Inflate: row; walked by hand. Inflate: reaches, own; walked by hand. -/
import Derived.Test.YtfoicjlkbkjfjaaHand10h
import Derived.Test.YtfoicjlkbkjfjaaLem09
namespace Go.Proofs.Ytfoicjlkbkjfjaa.Hand
open Go.RowKit Go.Proofs.YtfoicjlkbkjfjaaW.PrintWords Go.Proofs.YtfoicjlkbkjfjaaW.PrintLast Go.Proofs.YtfoicjlkbkjfjaaW.PrintMore Go.Proofs.Ytfoicjlkbkjfjaa.Num Go.Proofs.Ytfoicjlkbkjfjaa.Bits
set_option linter.unusedVariables false
set_option linter.unusedSimpArgs false
def RwLeft (r : Res (List Int)) (D : Nat) (w' : World) (B x g : Nat) (s : ByteArray) (m : Int) (e : Ending) : Prop := match r with
  | .bad c => e = .returned (.tuple #[.slice none 0 0, .int .i64 c])
  | .ok row q r => ∃ v, e = .returned (.tuple #[v, .int .i64 0]) ∧ Row w' D 3 .i64 v row ∧ InfAt w' B x g s q r m
/-- What row holds in a round. -/
structure RwMid (w W : World) (B x g mb cb many : Nat) (s : ByteArray) (p : Nat) (o : List Int) (m : Int) (v : Value) (row : List Int) : Prop where
  inf : InfAt W B x g s p o m
  fill : FillAt W mb cb many v row
  fr : Fr w W (SI B x g w)
theorem RwMid.below {w W W' : World} {B x g mb cb many : Nat} {s : ByteArray} {p : Nat} {o : List Int} {m : Int} {v : Value} {row : List Int} (h : RwMid w W B x g mb cb many s p o m v row) (hb : Below W.heap.size W W') : RwMid w W' B x g mb cb many s p o m v row :=
  ⟨h.inf.below hb, h.fill.below hb, h.fr.then_ (Fr.of_below hb _)⟩
theorem RwMid.read {w W W' : World} {B x g mb cb many : Nat} {s : ByteArray} {p q : Nat} {o : List Int} {m : Int} {v : Value} {row : List Int} (h : RwMid w W B x g mb cb many s p o m v row) (k : RdAt W' g s q) (hf : Fr W W' (· = g)) : RwMid w W' B x g mb cb many s q o m v row :=
  ⟨h.inf.read k hf, h.fill.frI h.inf hf.siR, h.fr.si hf.siR⟩
theorem RwMid.inf_ {w W W' : World} {B x g mb cb many : Nat} {s : ByteArray} {p q : Nat} {o o' : List Int} {m : Int} {v : Value} {row : List Int} (h : RwMid w W B x g mb cb many s p o m v row) (k : InfAt W' B x g s q o' m) (hf : Fr W W' (SI B x g W)) : RwMid w W' B x g mb cb many s q o' m v row :=
  ⟨k, h.fill.frI h.inf hf, h.fr.si hf⟩
theorem RwMid.put {w W W' : World} {B x g mb cb many : Nat} {s : ByteArray} {p : Nat} {o : List Int} {m : Int} {v v' : Value} {row row' : List Int} (h : RwMid w W B x g mb cb many s p o m v row) (k : FillAt W' mb cb many v' row') (hf : Fr W W' (SP mb cb W)) (hm : w.heap.size ≤ mb) (hc : w.heap.size ≤ cb) : RwMid w W' B x g mb cb many s p o m v' row' :=
  ⟨h.inf.frP ⟨v, h.fill.cblk⟩ hf, k, h.fr.trans hf (fun j hj hs => by rcases hs with h1 | ⟨h1, _⟩ <;> omega)⟩
theorem RwMid.span {w W W' : World} {B x g mb cb many z : Nat} {s : ByteArray} {p : Nat} {o : List Int} {m : Int} {v : Value} {row : List Int} {cs : Array Value} (h : RwMid w W B x g mb cb many s p o m v row) (hz : W.heap[z]? = some (.cells cs 142 (0, 0))) (hw : w.heap.size ≤ z) (hf : Fr W W' (· = z)) : RwMid w W' B x g mb cb many s p o m v row := by
  have key : ∀ {k : Nat} {c2 : Array Value} {t : TypeId}, W.heap[k]? = some (.cells c2 t (0, 0)) → t ≠ 142 → ¬ k = z := fun hk ht he => by
    subst he
    rw [hk] at hz; injection hz with hz; injection hz with _ hz; exact ht hz
  obtain ⟨u, hx, hr⟩ := h.inf.blk
  refine ⟨⟨⟨u, hf.blk hx (key hx (by decide)), hr.fr hf (fun j hj => by obtain ⟨c, hc⟩ := hr.blk j hj; exact key hc (by decide))⟩, h.inf.rd.fr hf (key h.inf.rd.blk (by decide))⟩, ⟨hf.blk h.fill.mblk (key h.fill.mblk (by decide)), hf.blk h.fill.cblk (key h.fill.cblk (by decide)), h.fill.row.fr hf (fun j hj => by obtain ⟨c, hc⟩ := h.fill.row.blk j hj; exact key hc (by decide))⟩, h.fr.trans hf (fun j hj he => absurd hj (by omega))⟩
theorem RwMid.drawn {w W W' : World} {B x g mb cb many : Nat} {s : ByteArray} {p : Nat} {o : List Int} {m : Int} {v : Value} {row : List Int} (h : RwMid w W B x g mb cb many s p o m v row) (hd : Drawn0 W W') : RwMid w W' B x g mb cb many s p o m v row :=
  ⟨h.inf.drawn hd, h.fill.drawn hd, h.fr.then_ (Fr.of_drawn hd _)⟩
set_option maxRecDepth 100000 in
set_option maxHeartbeats 4000000 in
theorem row_calls (w : World) (B B1 x g ta many : Nat) (l : List Int) (s : ByteArray) (p : Nat) (o : List Int) (m : Int) (h : InfAt w B x g s p o m) (hT : Tr w B1 ta l) (hml : mayF l = 0) (hll : l.length ≤ 19) (hs : s.size ≤ 1000000) (hB : B ≤ w.heap.size) (hp : p ≤ 8 * s.size) (hmany : many ≤ 320) :
    Calls Try.prog 82 #[.pointer (some ⟨x, 0, none⟩), .pointer (some ⟨ta, 0, none⟩), .int .i64 (many : Int)] w fun e w' =>
      RwLeft (rowM l many 400 [] s m p o) w.heap.size w' B x g s m e ∧ Fr w w' (SI B x g w) := by
  obtain ⟨res, hres⟩ : ∃ res, res = rowM l many 400 [] s m p o := ⟨_, rfl⟩
  rw [← hres]
  have HRES := Aside0.mk hres
  have H0 : Aside0 (_ ∧ _) := ⟨h, hT⟩
  clear h hT hres
  go_enter Try.func82, Try.ntmps82
  go_wp2_with fail
  refine (filler_calls _ many).mono ?_
  rintro e w1 ⟨rfl, hf1, hb1⟩
  obtain ⟨mb, hmb⟩ : ∃ mb, mb = w.heap.size := ⟨_, rfl⟩
  obtain ⟨cb, hcb⟩ : ∃ cb, cb = w.heap.size + 1 := ⟨_, rfl⟩
  rw [← hcb, ← hmb] at hf1
  have HBB : Aside0 (w.heap.size ≤ mb ∧ w.heap.size ≤ cb ∧ mb = w.heap.size) := ⟨by omega, by omega, hmb⟩
  have H1 : Aside0 (RwMid w w1 B x g mb cb many s p o m (.slice none 0 0) []) := ⟨⟨H0.out.1.below hb1, hf1, Fr.of_below hb1 _⟩⟩
  rw [← hcb, ← hmb]
  clear hf1 hb1 hmb hcb
  go_wp2_with fail
  go_loopg [] 400 (fun kq wr => ∃ (p1 : Nat) (v : Value) (row : List Int), p1 ≤ 8 * s.size ∧ row.length ≤ many ∧ many < row.length + kq ∧ Aside0 (RwMid w wr B x g mb cb many s p1 o m v row ∧ res = rowM l many kq row s m p1 o))
  case atStart => exact ⟨p, _, [], hp, by simp, by simp; omega, H1.out, HRES.out⟩
  case round =>
    clear H1 HRES
    obtain ⟨p1, v, row, hp1, hrl, hk, HW⟩ := hrel
    cases gk with
    | zero => exact absurd hk (by omega)
    | succ k1 =>
      obtain ⟨A1, n1, k1c, hv1, hn1⟩ := HW.out.1.fill.row.shape
      subst hv1
      obtain rfl := hn1.out
      have d1 : wr.cell? ⟨cb, 0, none⟩ = some (.slice A1 row.length k1c) := blk_cell HW.out.1.fill.cblk 0
      have hrec := HW.out.2
      rw [rowM] at hrec
      by_cases hlt : row.length < many
      · have q1 : decide ((row.length : Int) < (many : Int)) = true := decide_eq_true (by omega)
        have q1n : decide (row.length < many) = true := decide_eq_true hlt
        rw [if_pos hlt] at hrec
        have HTr : Aside0 (Tr wr B1 ta l) := ⟨TreeAt.frI H0.out.2 H0.out.1 HW.out.1.fr⟩
        have KR := Aside0.mk (tread_calls wr B1 ta g l s p1 hml HTr.out HW.out.1.inf.rd hs)
        have hd0 := rdS_nonneg s l p1
        have hdb := rdS_big s l p1 (by omega)
        have hq := rdS_le s l p1 hp1
        have hsy1 := fun h => sym_ok (l := l) (s := s) (m := m) (p := p1) (o := o) h
        have hsy2 := fun h => sym_bad (l := l) (s := s) (m := m) (p := p1) (o := o) h
        obtain ⟨rr, hrr⟩ : ∃ rr, rr = rdS s l p1 := ⟨_, rfl⟩
        rw [← hrr] at KR hd0 hdb hq hsy1 hsy2
        obtain ⟨d, er, q⟩ := rr
        dsimp only at KR hd0 hdb hq hsy1 hsy2
        obtain ⟨D, rfl⟩ := Int.eq_ofNat_of_zero_le hd0
        obtain ⟨v1, hb1, _⟩ := HW.out.1.inf.blk
        have c1 : wr.cell? ⟨x, 0, none⟩ = some (.pointer (some ⟨g, 0, none⟩)) := blk_cell hb1 0
        have HREC := Aside0.mk hrec
        clear hrr hb1 hd0 hrec hn1 HTr
        go_wp2_with fail
        refine KR.out.mono ?_
        rintro e w3 ⟨rfl, h3, f3⟩
        have HW3 := Aside0.mk (HW.out.1.read h3 f3)
        clear h3 f3 HW KR c1 d1
        by_cases her : er = 0
        · subst her
          have hr1 := hsy1 rfl
          have HREC1 := HREC.out
          rw [bind_ok hr1] at HREC1
          have HREC2 := Aside0.mk HREC1
          clear hsy1 hsy2 HREC hr1 HREC1
          have d3 : w3.cell? ⟨cb, 0, none⟩ = some (.slice A1 row.length k1c) := blk_cell HW3.out.fill.cblk 0
          go_upto_block 2 with fail
          have hbz := below_alloc (Below.refl w3.heap.size w3) (.cells #[.int .i64 1, .int .i64 0] 142)
          have hz := heap_alloc_new w3 (.cells #[.int .i64 1, .int .i64 0] 142)
          have HW4 := Aside0.mk (HW3.out.below hbz)
          obtain ⟨z, hzz⟩ : ∃ z, z = w3.heap.size := ⟨_, rfl⟩
          have HZ : Aside0 (w.heap.size ≤ z) := ⟨by rw [hzz]; exact HW3.out.fr.size⟩
          rw [← hzz] at hz ⊢
          generalize World.alloc w3 _ = W4 at HW4 hz ⊢
          have HZB := Aside0.mk hz
          clear hbz hzz d3 HW3 hz
          go_cut [12] (fun v12 wc => ∃ (a : Int) (b : Nat) (what : Int), v12 = .int .i64 what ∧ 1 ≤ a ∧ a ≤ 11 ∧ b ≤ 7 ∧ Aside0 (RwMid w wc B x g mb cb many s q o m (.slice A1 row.length k1c) row ∧ wc.heap[z]? = some (.cells #[.int .i64 a, .int .i64 (b : Int)] 142 (0, 0)) ∧
            res = ((toldM (a, b)).bind fun times => if (many : Int) - row.length < times then RM.err 4 else rowM l many k1 (row ++ List.replicate times.toNat what)) s m q o))
          case first =>
            have z0 : W4.cell? ⟨z, 0, none⟩ = some (.int .i64 1) := blk_cell HZB.out 0
            have z1 : W4.cell? ⟨z, 1, none⟩ = some (.int .i64 0) := blk_cell HZB.out 1
            have y0 := blk_frozen HZB.out 0
            have y1 := blk_frozen HZB.out 1
            have d4 : W4.cell? ⟨cb, 0, none⟩ = some (.slice A1 row.length k1c) := blk_cell HW4.out.fill.cblk 0
            by_cases h16 : D = 16
            · subst h16
              by_cases hnil : row = []
              · subst hnil
                have hr2 := HREC2.out
                rw [if_pos ⟨by decide, rfl⟩] at hr2
                have HR := Aside0.mk hr2
                clear hr2 HREC2
                have q3 : decide (((([] : List Int).length : Nat) : Int) = 0) = true := by decide
                go_wp2_with fail
                repeat (rw [Exit.noGoto_ret])
                go_returns
                rw [HR.out]
                exact ⟨rfl, HW4.out.fr⟩
              · have hr2 := HREC2.out
                rw [if_neg (fun h => hnil h.2), if_pos (by decide), if_pos (by decide)] at hr2
                have HR := Aside0.mk hr2
                have hl0 : row.length ≠ 0 := fun h => hnil (List.length_eq_zero_iff.1 h)
                have q3 : ((row.length : Int) == 0) = false := beq_eq_false_iff_ne.2 (by omega)
                have q3n : (row.length == 0) = false := beq_eq_false_iff_ne.2 hl0
                obtain ⟨ix, hix⟩ : ∃ ix, ix = row.length - 1 := ⟨_, rfl⟩
                have hix2 : (row.length : Int) - 1 = (ix : Int) := by omega
                have hixI0 : (0 : Int) ≤ (ix : Int) := by omega
                have hixI1 : (ix : Int) < (row.length : Int) := by omega
                have hixl : ix < row.length := by omega
                have hixW : IntKind.i64.wrap (ix : Int) = (ix : Int) := by rw [IntKind.wrap_i64]; omega
                obtain ⟨ad, had, hcell⟩ := ReadsInt.at_ (reads_kdC (Row.kdC HW4.out.fill.row).2.2) (ix : Int) (by omega) (by omega)
                subst had
                rw [Int.toNat_natCast, rd_nat] at hcell
                obtain ⟨y, hy⟩ : ∃ y, y = row.getD ix 0 := ⟨_, rfl⟩
                rw [← hy] at hcell
                have HY : Aside0 (y = row.getD (row.length - 1) 0) := ⟨by rw [hy, hix]⟩
                clear hr2 HREC2 hix hy hl0 hnil
                go_wp2_with fail
                go_big_region
                go_wp2_with fail
                go_meet
                have hf : Fr W4 ((W4.setCell ⟨z, 0, none⟩ (.int .i64 3)).setCell ⟨z, 1, none⟩ (.int .i64 2)) (· = z) := ((Fr.refl _ _).set1 0 _).set1 1 _
                exact ⟨3, 2, y, rfl, by decide, by decide, by decide, (HW4.out.span HZB.out HZ.out hf).drawn ⟨1, rfl⟩, (blk_set (blk_set HZB.out 0 _) 1 _).trans rfl, by rw [HY.out]; exact HR.out⟩
            · have q3 : ((D : Int) == 16) = false := beq_eq_false_iff_ne.2 (by omega)
              have q3n : (D == 16) = false := beq_eq_false_iff_ne.2 h16
              have hr2 := HREC2.out
              rw [if_neg (fun h => h16 (by have := h.1; omega)), if_neg (show ¬ ((D : Int) = 16) by omega), if_neg (show ¬ ((D : Int) = 16) by omega)] at hr2
              by_cases h17 : D = 17
              · subst h17
                rw [if_pos (by decide), if_pos (.inl (by decide))] at hr2
                have HR := Aside0.mk hr2
                clear hr2 HREC2
                go_wp2_with fail
                go_meet
                have hf : Fr W4 ((W4.setCell ⟨z, 0, none⟩ (.int .i64 3)).setCell ⟨z, 1, none⟩ (.int .i64 3)) (· = z) := ((Fr.refl _ _).set1 0 _).set1 1 _
                exact ⟨3, 3, 0, rfl, by decide, by decide, by decide, HW4.out.span HZB.out HZ.out hf, (blk_set (blk_set HZB.out 0 _) 1 _).trans rfl, HR.out⟩
              · have q4 : ((D : Int) == 17) = false := beq_eq_false_iff_ne.2 (by omega)
                have q4n : (D == 17) = false := beq_eq_false_iff_ne.2 h17
                rw [if_neg (show ¬ ((D : Int) = 17) by omega)] at hr2
                by_cases h18 : D = 18
                · subst h18
                  rw [if_pos (by decide), if_pos (.inr (by decide))] at hr2
                  have HR := Aside0.mk hr2
                  clear hr2 HREC2
                  go_wp2_with fail
                  go_meet
                  have hf : Fr W4 ((W4.setCell ⟨z, 0, none⟩ (.int .i64 11)).setCell ⟨z, 1, none⟩ (.int .i64 7)) (· = z) := ((Fr.refl _ _).set1 0 _).set1 1 _
                  exact ⟨11, 7, 0, rfl, by decide, by decide, by decide, HW4.out.span HZB.out HZ.out hf, (blk_set (blk_set HZB.out 0 _) 1 _).trans rfl, HR.out⟩
                · have q5 : ((D : Int) == 18) = false := beq_eq_false_iff_ne.2 (by omega)
                  have q5n : (D == 18) = false := beq_eq_false_iff_ne.2 h18
                  rw [if_neg (show ¬ ((D : Int) = 18) by omega), if_neg (by omega)] at hr2
                  have HR := Aside0.mk hr2
                  clear hr2 HREC2
                  go_wp2_with fail
                  go_meet
                  exact ⟨1, 0, D, rfl, by decide, by decide, by decide, HW4.out, HZB.out, HR.out⟩
          case rest =>
            clear HREC2 HW4 HZB
            obtain ⟨a, b, what, rfl, ha0, ha1, hb7, HC⟩ := hcut
            have z0 : wc.cell? ⟨z, 0, none⟩ = some (.int .i64 a) := blk_cell HC.out.2.1 0
            have z1 : wc.cell? ⟨z, 1, none⟩ = some (.int .i64 (b : Int)) := blk_cell HC.out.2.1 1
            have KT := Aside0.mk (told_calls wc B x g s q o m a b HC.out.1.inf hs (by omega) (by omega) (by omega) (Nat.le_trans hB HC.out.1.fr.size))
            by_cases hsh : q + b ≤ 8 * s.size
            · have hr2 := HC.out.2.2
              rw [bind_ok (told_ok hsh)] at hr2
              rw [told_ok hsh] at KT
              have hv := val_range s q b
              have hpw := pow_le2 hb7
              obtain ⟨N, hN⟩ := Int.eq_ofNat_of_zero_le (show 0 ≤ a + val s q b by omega)
              rw [hN] at hr2 KT
              have hN2 : N ≤ 200 := by omega
              rw [Int.toNat_natCast] at hr2
              have HR := Aside0.mk hr2
              have hN1 : a + val s q b = (N : Int) := hN
              clear hr2 hN hpw
              go_wp2_with fail
              refine KT.out.mono ?_
              rintro e w5 ⟨⟨rfl, hi5⟩, hf5⟩
              have HW5 := Aside0.mk (HC.out.1.inf_ hi5 hf5)
              clear hi5 hf5 KT HC z0 z1
              by_cases hroom : (many : Int) - (row.length : Int) < (N : Int)
              · have hr3 := HR.out
                rw [if_pos hroom] at hr3
                have HR3 := Aside0.mk hr3
                have KP := Aside0.mk (put_bad w5 mb cb many N _ row what HW5.out.fill (by omega) (by omega) hrl hroom)
                clear hr3 HR hroom hv hN1
                go_wp2_with fail
                refine KP.out.mono ?_
                rintro e w6 ⟨rfl, rfl⟩
                go_wp2_with fail
                repeat (rw [Exit.noGoto_ret])
                go_returns
                rw [HR3.out]
                exact ⟨rfl, HW5.out.fr⟩
              · have hr3 := HR.out
                rw [if_neg hroom] at hr3
                have HR3 := Aside0.mk hr3
                have KP := Aside0.mk (put_ok w5 mb cb many N _ row what HW5.out.fill (by omega) (by omega) hrl hroom)
                have hlen : (row ++ List.replicate N what).length = row.length + N := by rw [List.length_append, List.length_replicate]
                have hN3 : 1 ≤ N := by omega
                have HLN := Aside0.mk hlen
                clear hr3 HR hv hN1 hlen
                go_wp2_with fail
                refine KP.out.mono ?_
                rintro e w6 ⟨rfl, ⟨v6, hf6⟩, hp6⟩
                have HW6 := Aside0.mk (HW5.out.put hf6 hp6 HBB.out.1 HBB.out.2.1)
                clear hf6 hp6 KP HW5
                go_wp2_with fail
                go_roundg k1
                case measure => omega
                case rel => exact ⟨q + b, v6, row ++ List.replicate N what, hsh, by rw [HLN.out]; omega, by rw [HLN.out]; omega, HW6.out, HR3.out⟩
            · have hr2 := HC.out.2.2
              rw [bind_bad (told_bad hsh)] at hr2
              rw [told_bad hsh] at KT
              have HR := Aside0.mk hr2
              clear hr2
              go_wp2_with fail
              refine KT.out.mono ?_
              rintro e w5 ⟨rfl, hf5⟩
              have HF5 := Aside0.mk (HC.out.1.fr.si hf5)
              clear hf5 KT HC z0 z1
              go_wp2_with fail
              repeat (rw [Exit.noGoto_ret])
              go_returns
              rw [HR.out]
              exact ⟨rfl, HF5.out⟩
        · have hr1 := hsy2 her
          have HREC1 := HREC.out
          rw [bind_bad hr1] at HREC1
          have HREC2 := Aside0.mk HREC1
          have q2 : (er != 0) = true := by simpa using her
          clear hsy1 hsy2 HREC hr1 her HREC1
          go_wp2_with fail
          repeat (rw [Exit.noGoto_ret])
          go_returns
          rw [HREC2.out]
          exact ⟨rfl, HW3.out.fr⟩
      · have q1 : decide ((row.length : Int) < (many : Int)) = false := decide_eq_false (by omega)
        have q1n : decide (row.length < many) = false := decide_eq_false hlt
        rw [if_neg hlt] at hrec
        have HREC := Aside0.mk hrec
        clear hrec hn1
        go_wp2_with fail
        go_returns
        rw [HREC.out]
        exact ⟨⟨_, rfl, HW.out.1.fill.row.lower (by have := HBB.out; omega), HW.out.1.inf⟩, HW.out.1.fr⟩
end Go.Proofs.Ytfoicjlkbkjfjaa.Hand
namespace Go.Proofs.Ytfoicjlkbkjfjaa.Hand
open Go.RowKit Go.Proofs.YtfoicjlkbkjfjaaW.PrintWords Go.Proofs.YtfoicjlkbkjfjaaW.PrintLast Go.Proofs.YtfoicjlkbkjfjaaW.PrintMore Go.Proofs.Ytfoicjlkbkjfjaa.Num Go.Proofs.Ytfoicjlkbkjfjaa.Bits
set_option linter.unusedVariables false
set_option linter.unusedSimpArgs false
theorem rowM_ok (l : List Int) (hl : l.length ≤ 320) (many : Nat) (s : ByteArray) (m : Int) : ∀ (k : Nat) (row : List Int) (p : Nat) (o : List Int) (r : List Int) (q : Nat) (o' : List Int), row.length ≤ many → (∀ x ∈ row, 0 ≤ x ∧ x ≤ 320) → p ≤ 8 * s.size → rowM l many k row s m p o = .ok r q o' → r.length = many ∧ (∀ x ∈ r, 0 ≤ x ∧ x ≤ 320) ∧ q ≤ 8 * s.size ∧ o' = o
  | 0, row, p, o, r, q, o', _, _, _, h => by cases h
  | k + 1, row, p, o, r, q, o', h1, h2, hp, h => by
    rw [rowM] at h
    by_cases hlt : row.length < many
    · rw [if_pos hlt] at h
      by_cases he : (rdS s l p).2.1 = 0
      · rw [bind_ok (sym_ok he)] at h
        have hd0 := rdS_nonneg s l p
        have hdb := rdS_big s l p hl
        have hq := rdS_le s l p hp
        generalize (rdS s l p).1 = D at h hd0 hdb
        generalize (rdS s l p).2.2 = p2 at h hq
        by_cases h16 : D = 16 ∧ row = []
        · rw [if_pos h16] at h; cases h
        · rw [if_neg h16] at h
          obtain ⟨a, b, hab, hb7⟩ : ∃ (a : Int) (b : Nat), (if D = 16 then ((3, 2) : Int × Nat) else if D = 17 then (3, 3) else if D = 18 then (11, 7) else (1, 0)) = (a, b) ∧ 1 ≤ a := by
            by_cases c1 : D = 16
            · exact ⟨3, 2, by rw [if_pos c1], by decide⟩
            · by_cases c2 : D = 17
              · exact ⟨3, 3, by rw [if_neg c1, if_pos c2], by decide⟩
              · by_cases c3 : D = 18
                · exact ⟨11, 7, by rw [if_neg c1, if_neg c2, if_pos c3], by decide⟩
                · exact ⟨1, 0, by rw [if_neg c1, if_neg c2, if_neg c3], by decide⟩
          rw [hab] at h
          by_cases hsh : p2 + b ≤ 8 * s.size
          · rw [bind_ok (told_ok hsh)] at h
            have hv := val_range s p2 b
            generalize hN : a + val s p2 b = N at h
            by_cases hroom : (many : Int) - row.length < N
            · rw [if_pos hroom] at h; cases h
            · rw [if_neg hroom] at h
              refine rowM_ok l hl many s m k _ (p2 + b) o r q o' (by rw [List.length_append, List.length_replicate]; omega) (fun x hx => ?_) hsh h
              rcases List.mem_append.1 hx with hx | hx
              · exact h2 x hx
              · have := (List.mem_replicate.1 hx).2
                subst this
                split
                · rw [List.getD_eq_getElem?_getD]
                  cases hc : row[row.length - 1]? with
                  | none => simp
                  | some z => exact h2 z (List.mem_of_getElem? hc)
                · split
                  · omega
                  · omega
          · rw [bind_bad (told_bad hsh)] at h; cases h
      · rw [bind_bad (sym_bad he)] at h; cases h
    · rw [if_neg hlt] at h
      injection h with a1 a2 a3
      subst a1 a2 a3
      exact ⟨by omega, h2, hp, rfl⟩
theorem sumL_nonneg : ∀ l : List Int, (∀ x ∈ l, 0 ≤ x) → 0 ≤ sumL l
  | [], _ => by simp [sumL]
  | x :: t, h => by
    have h1 := h x (List.mem_cons_self ..)
    have h2 := sumL_nonneg t (fun y hy => h y (List.mem_cons_of_mem _ hy))
    rw [sumL]; omega
theorem kraft_sum : ∀ l : List Int, (∀ x ∈ l, 0 ≤ x) → kraft l ≤ 16384 * sumL l ∧ ∀ x ∈ l, x ≤ sumL l
  | [], _ => by simp [kraft, sumL]
  | n :: t, h => by
    have h1 := h n (List.mem_cons_self ..)
    have ht := fun y (hy : y ∈ t) => h y (List.mem_cons_of_mem _ hy)
    obtain ⟨h2, h3⟩ := kraft_sum t ht
    have h4 := sumL_nonneg t ht
    have h5 : part9 n ≤ 16384 * n := by
      unfold part9
      split
      · have := pow_le2 (show 15 - n.toNat ≤ 14 by omega)
        have e : (2 : Int) ^ 14 = 16384 := by decide
        omega
      · omega
    rw [kraft, sumL]
    refine ⟨by omega, fun x hx => ?_⟩
    rcases List.mem_cons.1 hx with rfl | hx
    · omega
    · have := h3 x hx; omega
theorem reach_may {l : List Int} (h : reachB l = true) (hx : ∀ x ∈ l, 0 ≤ x) (hl : l.length ≤ 320) : mayF l = 0 := by
  unfold reachB at h
  by_cases hs : sumL l < 2
  · obtain ⟨h1, h2⟩ := kraft_sum l hx
    have h3 : l.all (fun n => decide (0 ≤ n ∧ n ≤ 15)) = true := List.all_eq_true.2 (fun x hxm => by
      have a := hx x hxm
      have b := h2 x hxm
      simp; omega)
    have hc := chk_eq l
    rw [if_neg (by omega), if_pos h3] at hc
    unfold mayF
    by_cases hk : kraft l = 0
    · rw [if_pos hk] at hc; rw [hc]; decide
    · rw [if_neg hk, if_neg (by omega), if_pos (by omega)] at hc; rw [hc]; decide
  · rw [decide_eq_false hs, Bool.false_or, decide_eq_true_iff] at h
    exact chk_may h
set_option maxRecDepth 100000 in
set_option maxHeartbeats 4000000 in
theorem reaches_calls (A : Option Addr) (c : Nat) (l : List Int) (w : World) (hr : ReadsInt w .i64 A l.length l) (hc : l.length ≤ c) (hx : ∀ x ∈ l, 0 ≤ x ∧ x ≤ 320) (hl : l.length ≤ 320) :
    Calls Try.prog 84 #[.slice A l.length c] w fun e w' => e = .returned (.bool (reachB l)) ∧ Below w.heap.size w w' := by
  have HR := Aside0.mk hr
  have HX := Aside0.mk hx
  have HK := Aside0.mk (fun (W : World) (h : Drawn0 w W) => check_calls A l.length c l W rfl (by obtain ⟨n, rfl⟩ := h.out; exact hr) hc)
  obtain ⟨S, hS⟩ : ∃ S, S = sumL l := ⟨_, rfl⟩
  obtain ⟨ck, hck⟩ : ∃ ck, ck = chkF l := ⟨_, rfl⟩
  have HB : Aside0 (reachB l = (decide (S < 2) || decide (ck = 0))) := ⟨by unfold reachB; rw [hS, hck]⟩
  rw [← hck] at HK
  have HS := Aside0.mk hS
  clear hr hx hS hck
  go_enter Try.func84, Try.ntmps84
  go_wp2_with fail
  go_loopw [3, 8] (fun v3 v8 wr => ∃ (i : Nat) (q : Int), v3 = .int .i64 q ∧ v8 = .int .i64 i ∧ i ≤ l.length ∧ 0 ≤ q ∧ q ≤ 320 * i ∧ Aside0 (q + sumL (l.drop i) = sumL l ∧ Drawn0 w wr)) (fun _ v8 _ => l.length - (intOf v8).toNat)
  case atStart => exact ⟨0, 0, rfl, rfl, by omega, by omega, by omega, by simp, Drawn0.refl _⟩
  case round =>
    obtain ⟨i, q, rfl, rfl, hi, hq0, hq1, HW⟩ := hrel
    by_cases hlt : i < l.length
    · have q1 : decide ((i : Int) < (l.length : Int)) = true := decide_eq_true (by omega)
      have q1n : decide (i < l.length) = true := decide_eq_true hlt
      obtain ⟨ad, had, hcell⟩ := ReadsInt.at_ HR.out (i : Int) (by omega) (by omega)
      subst had
      obtain ⟨⟨nd, rfl⟩⟩ := HW.out.2
      rw [Int.toNat_natCast, rd_nat] at hcell
      have hdr : l.drop i = l.getD i 0 :: l.drop (i + 1) := by rw [List.getD_eq_getElem?_getD, List.getElem?_eq_getElem hlt, Option.getD_some, ← List.drop_eq_getElem_cons hlt]
      have hxi := HX.out (l.getD i 0) (by rw [List.getD_eq_getElem?_getD, List.getElem?_eq_getElem hlt]; exact List.getElem_mem _)
      have hsm := HW.out.1
      rw [hdr, sumL] at hsm
      obtain ⟨y, hy⟩ : ∃ y, y = l.getD i 0 := ⟨_, rfl⟩
      rw [← hy] at hcell hxi hsm
      have HSM := Aside0.mk hsm
      clear hdr hy hsm HW
      go_wp2_with fail
      go_roundw
      case rel => exact ⟨i + 1, q + y, rfl, by go_num, by omega, by omega, by omega, by rw [← HSM.out]; omega, ⟨_, rfl⟩⟩
      case measure => simp [intOf]; omega
    · have q1 : decide ((i : Int) < (l.length : Int)) = false := decide_eq_false (by omega)
      have q1n : decide (i < l.length) = false := decide_eq_false hlt
      have hsm := HW.out.1
      rw [List.drop_of_length_le (by omega), sumL, Int.add_zero, ← HS.out] at hsm
      subst hsm
      have HD := Aside0.mk HW.out.2
      clear HW HS HX
      by_cases h2 : q < 2
      · have q2 : decide (q < 2) = true := decide_eq_true h2
        go_wp2_with fail
        go_returns
        rw [HB.out, q2, Bool.true_or]
        exact ⟨rfl, HD.out.below⟩
      · have q2 : decide (q < 2) = false := decide_eq_false h2
        go_wp2_with fail
        refine (HK.out _ HD.out).mono ?_
        rintro e w2 ⟨rfl, hb2⟩
        have HB2 := Aside0.mk (HD.out.below.trans (hb2.mono HD.out.below.size))
        clear hb2 HK HD
        have he : (ck == 0) = decide (ck = 0) := by rw [Bool.eq_iff_iff]; simp
        go_wp2_with fail
        go_returns
        rw [HB.out, q2, Bool.false_or]
        exact ⟨rfl, HB2.out⟩
end Go.Proofs.Ytfoicjlkbkjfjaa.Hand
