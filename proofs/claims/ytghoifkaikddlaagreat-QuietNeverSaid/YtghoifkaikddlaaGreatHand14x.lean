/- The contracts of hexa.joiner's two functions, and of hexa.Decode. hexa.Encode and hexa.Decode, each as one plain function. -/
import Derived.Test.YtghoifkaikddlaaGreatHand06
import Derived.Test.YtghoifkaikddlaaGreatP06wx0
import Derived.Test.YtghoifkaikddlaaGreatP06wx1
import Derived.Laws.EntriesVeiled
import Derived.Handy
namespace Go.Proofs.YtghoifkaikddlaaGreat.Hand
open Go.RowKit Go.Proofs.YtghoifkaikddlaaGreatW.PrintWords Go.Proofs.YtghoifkaikddlaaGreatW.PrintLast Go.Proofs.YtghoifkaikddlaaGreatW.PrintMore Go.Proofs.YtghoifkaikddlaaGreat.Num Go.Proofs.YtghoifkaikddlaaGreat.P01a Go.Proofs.YtghoifkaikddlaaGreat.P06w
set_option linter.unusedVariables false
set_option linter.unusedSimpArgs false
structure DS (w : World) (B gh go gt : Nat) (h : Int) (xs : List Int) : Prop where
 hb : w.heap[gh]? = some (.cells #[.int .i64 h] 3 (0, 0))
 ob : ∃ v, w.heap[go]? = some (.cells #[v] 59 (0, 0)) ∧ Row w B 5 .u8 v xs
 tb : w.heap[gt]? = some (.cells #[.func (.func 98) #[] #[.pointer (some ⟨gh, 0, none⟩), .pointer (some ⟨go, 0, none⟩)]] 87 (0, 0))
 b1 : B ≤ gh
 b2 : B ≤ go
def takeS (p : Int × List Int) (d : Int) : Int × List Int := if p.1 < 0 then (d, p.2) else (-1, p.2 ++ [16 * p.1 + d])
def toldS (h : Int) (xs : List Int) : List Int := if 0 ≤ h then xs ++ [16 * h] else xs
theorem DS.drawn {w w' : World} {B gh go gt : Nat} {h : Int} {xs : List Int} (k : DS w B gh go gt h xs) (hd : Drawn0 w w') : DS w' B gh go gt h xs := by
 obtain ⟨n, rfl⟩ := hd.out
 exact ⟨k.hb, k.ob, k.tb, k.b1, k.b2⟩
theorem DS.below {w w' : World} {B gh go gt : Nat} {h : Int} {xs : List Int} (k : DS w B gh go gt h xs) (hd : Below w.heap.size w w') : DS w' B gh go gt h xs := by
 obtain ⟨hb, ⟨v, ob, hr⟩, tb, b1, b2⟩ := k
 exact ⟨blk_below hb hd, ⟨v, blk_below ob hd, hr.below hd⟩, blk_below tb hd, b1, b2⟩
set_option maxHeartbeats 1000000 in
theorem jtake_calls (w : World) (B gh go gt : Nat) (h : Int) (xs : List Int) (d : Int) (k : DS w B gh go gt h xs) (hd0 : 0 ≤ d) (hd1 : d ≤ 15) (hh0 : -1 ≤ h) (hh1 : h ≤ 15) (hl : xs.length ≤ 3000000) (hB : B ≤ w.heap.size) :
  Calls Tryz.prog 98 #[.int .i64 d, .pointer (some ⟨gh, 0, none⟩), .pointer (some ⟨go, 0, none⟩)] w fun e w' => e = .returned (.tuple #[]) ∧ DS w' B gh go gt (takeS (h, xs) d).1 (takeS (h, xs) d).2 ∧ Below B w w' := by
 obtain ⟨hb, ⟨v, ob, hr⟩, tb, b1, b2⟩ := k
 have c1 := blk_cell hb 0
 have c2 := blk_cell ob 0
 have f1 := blk_frozen hb 0
 have f2 := blk_frozen ob 0
 by_cases hn : h < 0
 ·have q1 : decide (h < 0) = true := decide_eq_true hn
  have ht : takeS (h, xs) d = (d, xs) := by unfold takeS; rw [if_pos hn]
  rw [ht]
  have HK : Aside0 (DS (w.setCell ⟨gh, 0, none⟩ (.int .i64 d)) B gh go gt d xs ∧ Below B w (w.setCell ⟨gh, 0, none⟩ (.int .i64 d))) :=
   ⟨⟨blk_put1 hb _, ⟨v, blk_else ob hb (by decide) 0 _, hr.set hb (by decide) 0 _⟩, blk_else tb hb (by decide) 0 _, b1, b2⟩, (Below.refl _ _).setCell (p := ⟨gh, 0, none⟩) b1 _⟩
  clear ht hr tb hb ob
  go_enter Tryz.func98, Tryz.ntmps98
  go_wp2
  exact bodyPost_ret (v := .tuple #[]) (by simp [results, Tryz.f98, go_sem]) rfl ⟨rfl, HK.out.1, HK.out.2⟩
 ·have q1 : decide (h < 0) = false := decide_eq_false hn
  have ht : takeS (h, xs) d = (-1, xs ++ [16 * h + d]) := by unfold takeS; rw [if_neg hn]
  rw [ht]
  have q2 : bits .or .i64 (h * 16) d = 16 * h + d := (bits_join .i64 62 (by decide) (fun n h0 h1 => IntWalk.i64_in _ (by omega)) 4 (h * 16) d (by omega) (by omega) (by omega) hd0 (by omega) (by omega)).trans (by omega)
  have q3 : IntKind.u8.wrap (16 * h + d) = 16 * h + d := (IntKind.wrap_u8 _).trans (by omega)
  have q4 : (16 * h + d) % 256 = 16 * h + d := by omega
  have HX := Aside0.mk (⟨hb, ob, hr, tb⟩ : _ ∧ _ ∧ _ ∧ _)
  clear ht hr tb hb ob
  go_enter Tryz.func98, Tryz.ntmps98
  go_wp2_with (at_builtin; refine app_wp B rfl _ _ 59 5 .u8 1 rfl Tryz.underlying59 infoU8 v xs [16 * h + d] ?a0 ⟨w.heap.size, 0, none⟩ 1 1 ?a1 ?a2 ?a3 ?a4 ?a5 ?a6 ?a7 ?_)
  try case a0 => rfl
  try case a1 => rfl
  try case a2 => rfl
  case a3 => first | exact news_lit w .u8 [16 * h + d] _ _ (by rfl) | exact fun j u h => h
  case a4 => exact HX.out.2.2.1.alloc _
  case a5 => first | omega | (simp; omega)
  case a6 => unfold maxLen; omega
  case a7 => omega
  intro v1 w1 hap
  obtain ⟨hb, ob, hr, tb⟩ := HX.out
  obtain ⟨A1, n1, m1, hv1, hn1⟩ := hap.row.shape
  subst hv1
  have hb1 := hap.blk1 hr hb (by decide)
  have ob1 := hap.blk1 hr ob (by decide)
  have tb1 := hap.blk1 hr tb (by decide)
  have bl1 := hap.below1 hr hB
  have hr1 := hap.row
  clear hap hr hb ob tb HX c1 c2 f1 f2 hn1
  have hr2 := hr1.set ob1 (by decide) 0 (.slice A1 n1 m1)
  have ob2 := blk_put1 ob1 (.slice A1 n1 m1)
  have hb2 := blk_else hb1 ob1 (by decide) 0 (.slice A1 n1 m1)
  have tb2 := blk_else tb1 ob1 (by decide) 0 (.slice A1 n1 m1)
  have bl2 := bl1.setCell (p := ⟨go, 0, none⟩) b2 (.slice A1 n1 m1)
  have c2 := blk_cell ob1 0
  have f2 := blk_frozen ob1 0
  have c1 := blk_cell hb2 0
  have f1 := blk_frozen hb2 0
  have HK : Aside0 (DS ((w1.setCell ⟨go, 0, none⟩ (.slice A1 n1 m1)).setCell ⟨gh, 0, none⟩ (.int .i64 (-1))) B gh go gt (-1) (xs ++ [16 * h + d]) ∧ Below B w ((w1.setCell ⟨go, 0, none⟩ (.slice A1 n1 m1)).setCell ⟨gh, 0, none⟩ (.int .i64 (-1)))) :=
   ⟨⟨blk_put1 hb2 _, ⟨_, blk_else ob2 hb2 (by decide) 0 _, hr2.set hb2 (by decide) 0 _⟩, blk_else tb2 hb2 (by decide) 0 _, b1, b2⟩, bl2.setCell (p := ⟨gh, 0, none⟩) b1 _⟩
  clear hr1 ob1 hb1 tb1 bl1 hr2 ob2 hb2 tb2 bl2
  go_wp2
  go_end0
  exact ⟨rfl, HK.out.1, HK.out.2⟩
set_option maxHeartbeats 1000000 in
theorem jtold_calls (w : World) (B gh go gt : Nat) (h : Int) (xs : List Int) (k : DS w B gh go gt h xs) (hh0 : -1 ≤ h) (hh1 : h ≤ 15) (hl : xs.length ≤ 3000000) (hB : B ≤ w.heap.size) :
  Calls Tryz.prog 99 #[.pointer (some ⟨gh, 0, none⟩), .pointer (some ⟨gt, 0, none⟩), .pointer (some ⟨go, 0, none⟩)] w fun e w' => e = .returned (.string (strOfNums (toldS h xs))) ∧ Below B w w' := by
 have c1 := blk_cell k.hb 0
 have c3 := blk_cell k.tb 0
 by_cases hn : h < 0
 ·have q1 : decide (0 ≤ h) = false := decide_eq_false (by omega)
  have ht : toldS h xs = xs := by unfold toldS; rw [if_neg (by omega)]
  rw [ht]
  obtain ⟨v, ob, hr⟩ := k.ob
  have c2 := blk_cell ob 0
  have ks := hr.str (P := Tryz.prog) (src := 59) (dst := 9) Tryz.underlying59 Tryz.underlying5 Tryz.underlying9
  clear hr ob k ht
  go_enter Tryz.func99, Tryz.ntmps99
  go_wp2
  go_ret
  exact ⟨rfl, Below.refl _ _⟩
 ·have q1 : decide (0 ≤ h) = true := decide_eq_true (by omega)
  have ht : toldS h xs = (takeS (h, xs) 0).2 := by unfold toldS takeS; rw [if_pos (by omega), if_neg hn, Int.add_zero]
  rw [ht]
  have HK := Aside0.mk (jtake_calls w B gh go gt h xs 0 k (by omega) (by omega) hh0 hh1 hl hB)
  clear ht k
  go_enter Tryz.func99, Tryz.ntmps99
  go_wp2_with (go_at_call 98; (with_reducible refine HK.out.mono ?_); rintro e w1 ⟨rfl, k1, hb1⟩; obtain ⟨v, ob, hr⟩ := k1.ob; have c2 := blk_cell ob 0; have ks := hr.str (P := Tryz.prog) (src := 59) (dst := 9) Tryz.underlying59 Tryz.underlying5 Tryz.underlying9; clear hr ob k1)
  go_ret
  exact ⟨rfl, hb1⟩
def hxF (c : Int) : Int := if 48 ≤ c ∧ c ≤ 57 then c - 48 else if 65 ≤ c ∧ c ≤ 70 then c - 55 else if 97 ≤ c ∧ c ≤ 102 then c - 87 else -1
theorem hxF_range (c : Int) : -1 ≤ hxF c ∧ hxF c ≤ 15 := by unfold hxF; split; omega; split; omega; split <;> omega
theorem hx_f (c : Int) (h0 : 0 ≤ c) (h1 : c < 256) : octet_Hex.f 2 c = some (hxF c) := by
 unfold octet_Hex.f hxF
 by_cases a : c ≥ 48
 ·rw [if_pos a]
  by_cases b : c ≤ 57
  ·rw [if_pos (by omega), decide_eq_true b]; simp only [octet_Hex.j0]; rw [if_pos trivial]; congr 1; omega
  ·rw [if_neg (by omega), decide_eq_false b]; simp only [octet_Hex.j0]; rw [if_neg (by decide)]
   by_cases d : c ≥ 65
   ·rw [if_pos d]
    by_cases e : c ≤ 70
    ·rw [if_pos (by omega), decide_eq_true e]; simp only [octet_Hex.j1]; rw [if_pos trivial]; congr 1; omega
    ·rw [if_neg (by omega), decide_eq_false e]; simp only [octet_Hex.j1]; rw [if_neg (by decide)]
     by_cases f : c ≥ 97
     ·rw [if_pos f]
      by_cases g : c ≤ 102
      ·rw [if_pos g, if_pos (by omega)]; congr 1; omega
      ·rw [if_neg g, if_neg (by omega)]
     ·rw [if_neg f, if_neg (by omega)]
   ·rw [if_neg d, if_neg (by omega)]; simp only [octet_Hex.j1]; rw [if_neg (by decide), if_neg (by omega), if_neg (by omega)]
 ·rw [if_neg a, if_neg (by omega), if_neg (by omega), if_neg (by omega)]; simp only [octet_Hex.j0, octet_Hex.j1]; rw [if_neg (by decide), if_neg (by omega), if_neg (by decide), if_neg (by omega)]
theorem hx_calls (c : Int) (h0 : 0 ≤ c) (h1 : c < 256) (w : World) : Calls Tryz.prog 68 #[.int .u8 c] w fun e w' => e = .returned (.int .i64 (hxF c)) ∧ Drawn0 w w' := octet_Hex.calls 2 c _ w (hx_f c h0 h1)
theorem spanL_white (cs : List Int) : spanL [0] cs = cs.length ↔ cs.all (fun c => kF c == 0) = true := by
 induction cs with
 | nil => simp [spanL]
 | cons c cs ih =>
  have h := spanL_le [0] cs
  rw [spanL, List.all_cons, List.length_cons]
  by_cases hk : kF c = 0
  ·rw [hk, if_pos (by decide)]
   simp only [beq_self_eq_true, Bool.true_and]
   rw [← ih]; omega
  ·have e : ([0] : List Int).contains (kF c) = false := by simp [hk]
   rw [e, if_neg (by decide), beq_eq_false_iff_ne.2 hk]; simp
def whiteB (cs : List Int) : Bool := cs.all (fun c => kF c == 0)
theorem white_f (s : ByteArray) (hs : s.size ≤ 1000000) : hexa_white.f s = some (whiteB (bytesOf s)) := by
 unfold hexa_white.f octet_Span.f
 rw [if_pos ⟨hs, by simp⟩]
 have h := spanL_white (bytesOf s)
 rw [bytesOf_length] at h
 by_cases h0 : 0 < s.size
 ·rw [if_pos (by omega)]
  simp only [Option.bind_some, Int.toNat_zero, List.drop_zero]
  congr 1
  unfold whiteB
  rw [Bool.eq_iff_iff, ← h, beq_iff_eq]
  omega
 ·rw [if_neg (by omega)]
  simp only [Option.bind_some]
  congr 1
  unfold whiteB
  rw [Bool.eq_iff_iff, ← h, beq_iff_eq]
  have : bytesOf s = [] := List.length_eq_zero_iff.1 (by rw [bytesOf_length]; omega)
  rw [this]
  simp [spanL]; omega
theorem white_calls (s : ByteArray) (hs : s.size ≤ 1000000) (w : World) : Calls Tryz.prog 69 #[.string s] w fun e w' => e = .returned (.bool (whiteB (bytesOf s))) ∧ Below w.heap.size w w' := hexa_white.calls s _ w (white_f s hs)
theorem joiner_calls (w : World) : Calls Tryz.prog 67 #[] w fun e w' => ∃ gh go gt, e = .returned (.tuple #[.func (.func 98) #[] #[.pointer (some ⟨gh, 0, none⟩), .pointer (some ⟨go, 0, none⟩)], .func (.func 99) #[] #[.pointer (some ⟨gh, 0, none⟩), .pointer (some ⟨gt, 0, none⟩), .pointer (some ⟨go, 0, none⟩)]]) ∧ DS w' w.heap.size gh go gt (-1) [] ∧ Below w.heap.size w w' := by
 go_enter Tryz.func67, Tryz.ntmps67
 go_wp2
 go_returns
 have h1 := blk_new w (.cells #[.slice none 0 0] 59)
 have h2 := blk_new (w.alloc (.cells #[.slice none 0 0] 59)) (.cells #[.int .i64 (-1)] 3)
 have h3 := blk_new ((w.alloc (.cells #[.slice none 0 0] 59)).alloc (.cells #[.int .i64 (-1)] 3)) (.cells #[.func (.func 98) #[] #[.pointer (some ⟨w.heap.size + 1, 0, none⟩), .pointer (some ⟨w.heap.size, 0, none⟩)]] 87)
 rw [World.size_alloc] at h2
 rw [World.size_alloc, World.size_alloc] at h3
 exact ⟨w.heap.size + 1, w.heap.size, w.heap.size + 1 + 1, rfl, ⟨blk_alloc h2 _, ⟨_, blk_alloc (blk_alloc h1 _) _, Row.nil _ _ _ _⟩, h3, by omega, by omega⟩, below_alloc (below_alloc (below_alloc (Below.refl _ _) _) _) _⟩
def decB : List Int → Int → List Int → ByteArray × Int
 | [], _, _ => (⟨#[]⟩, 5)
 | c :: cs, h, xs =>
  if c = 62 then (if whiteB cs = true then (strOfNums (toldS h xs), 0) else (⟨#[]⟩, 4))
  else if 0 ≤ hxF c then decB cs (takeS (h, xs) (hxF c)).1 (takeS (h, xs) (hxF c)).2
  else if kF c = 0 then decB cs h xs else (⟨#[]⟩, 4)
def hexa_Decode.f (a0 : ByteArray) : Option (ByteArray × Int) := if a0.size ≤ 1000000 then some (decB (bytesOf a0) (-1) []) else none
theorem drop_extract (s : ByteArray) (i : Nat) : bytesOf (s.extract i s.size) = (bytesOf s).drop i := by
 rw [bytesOf_extract, List.take_of_length_le (by rw [bytesOf_length]; exact Nat.le_refl _)]
set_option maxHeartbeats 4000000 in
theorem hexa_Decode.calls (a0 : ByteArray) (r1 : ByteArray) (r2 : Int) (w : World) (h : hexa_Decode.f a0 = some (r1, r2)) :
  Calls Tryz.prog 50 #[.string a0] w fun e w' => e = .returned (.tuple #[.string r1, .int .i64 r2]) ∧ Below w.heap.size w w' := by
 unfold hexa_Decode.f at h
 by_cases hs : a0.size ≤ 1000000
 ·rw [if_pos hs] at h
  have HR := Aside0.mk (Option.some.inj h)
  clear h
  go_enter Tryz.func50, Tryz.ntmps50
  go_wp2_with (go_at_call 67; (with_reducible refine (joiner_calls _).mono ?_); rintro e w1 ⟨gh, go, gt, rfl, k1, hb1⟩; have K1 := Aside0.mk k1; have HB1 := Aside0.mk hb1; clear k1 hb1)
  go_loopw [14] (fun v14 wr => ∃ (i : Nat) (h : Int) (xs : List Int), i ≤ a0.size ∧ v14 = .int .i64 i ∧ Aside0 (decB ((bytesOf a0).drop i) h xs = (r1, r2)) ∧ Aside0 (DS wr w.heap.size gh go gt h xs) ∧ Aside0 (-1 ≤ h ∧ h ≤ 15 ∧ xs.length ≤ i) ∧ Aside0 (Below w.heap.size w wr)) (fun v14 _ => a0.size - (intOf v14).toNat)
  case atStart => exact ⟨0, -1, [], by omega, rfl, ⟨by rw [List.drop_zero]; exact HR.out⟩, K1, ⟨by omega, by omega, Nat.le_refl _⟩, HB1⟩
  case round =>
   clear K1 HB1 HR
   obtain ⟨i, h, xs, hi, rfl, HA, HD, HH, HB⟩ := hrel
   by_cases hlt : i < a0.size
   ·have q1 : decide ((i : Int) < (a0.size : Int)) = true := decide_eq_true (by omega)
    obtain ⟨x, hx⟩ : ∃ x : Int, x = bt a0 (i : Int) := ⟨_, rfl⟩
    have hxx : (a0[i].toNat : Int) = x := by rw [hx]; exact (bt_nat a0 i hlt).symm
    have hxr := bt_range a0 (i : Int)
    have ha := HA.out
    rw [drop_bytes a0 i hlt, ← hx, decB] at ha
    rw [← hx] at hxr
    have HX := Aside0.mk (hx_calls x hxr.1 (by omega))
    have hr := hxF_range x
    have ksl : ∀ W : World, (Instr.slice 9 (.string a0) (some (.int .i64 ((i : Int) + 1))) none none).run Tryz.prog W = .ok (.string (a0.extract (i + 1) a0.size)) W := fun W => by
     have := run_slice_string_l (P := Tryz.prog) W 9 a0 Tryz.underlying9 .i64 ((i : Int) + 1) (by omega) (by omega)
     rwa [show ((i : Int) + 1).toNat = i + 1 by omega] at this
    have hd1 : (-1 : Int) ≤ h := HH.out.1
    have hd2 : h ≤ 15 := HH.out.2.1
    have hd3 : xs.length ≤ 3000000 := by have := HH.out.2.2; omega
    clear hx HA
    by_cases h62 : x = 62
    ·rw [if_pos h62] at ha
     subst h62
     have HW := Aside0.mk (white_calls (a0.extract (i + 1) a0.size) (by rw [ByteArray.size_extract]; omega))
     rw [drop_extract] at HW
     have e1 : hxF 62 = -1 := by decide
     rw [e1] at HX
     clear e1 hr
     cases hw : whiteB ((bytesOf a0).drop (i + 1)) with
     | true =>
      rw [hw, if_pos rfl] at ha
      rw [hw] at HW
      have HR := Aside0.mk ha
      clear hw ha
      go_wp2_with (first | (go_at_call 68; (with_reducible refine (HX.out _).mono ?_); rintro e w3 ⟨rfl, ⟨nd3, rfl⟩⟩) | (go_at_call 69; (with_reducible refine (HW.out _).mono ?_); rintro e w4 ⟨rfl, hb4⟩; have HD4 := Aside0.mk (DS.below (HD.out.drawn ⟨nd3, rfl⟩) hb4); have HB4 := Aside0.mk (HB.out.trans ((pw_below_drewN (Below.refl _ _) nd3).mono HB.out.size |>.trans (hb4.mono HB.out.size))); clear hb4))
      refine (jtold_calls w4 w.heap.size gh go gt h xs HD4.out hd1 hd2 hd3 HB4.out.size).mono ?_
      rintro e w5 ⟨rfl, hb5⟩
      go_wp2
      repeat (rw [Exit.noGoto_ret])
      go_returns
      have hr := HR.out
      injection hr with hr1 hr2
      rw [← hr1, ← hr2]
      exact ⟨rfl, HB4.out.trans hb5⟩
     | false =>
      rw [hw, if_neg (by decide)] at ha
      rw [hw] at HW
      have HR := Aside0.mk ha
      clear hw ha
      go_wp2_with (first | (go_at_call 68; (with_reducible refine (HX.out _).mono ?_); rintro e w3 ⟨rfl, ⟨nd3, rfl⟩⟩) | (go_at_call 69; (with_reducible refine (HW.out _).mono ?_); rintro e w4 ⟨rfl, hb4⟩; have HB4 := Aside0.mk (HB.out.trans ((pw_below_drewN (Below.refl _ _) nd3).mono HB.out.size |>.trans (hb4.mono HB.out.size))); clear hb4))
      repeat (rw [Exit.noGoto_ret])
      go_returns
      have hr := HR.out
      injection hr with hr1 hr2
      rw [← hr1, ← hr2]
      exact ⟨rfl, HB4.out⟩
    ·rw [if_neg h62] at ha
     have n62 : (x == 62) = false := beq_eq_false_iff_ne.2 h62
     obtain ⟨y, hy⟩ : ∃ y : Int, y = hxF x := ⟨_, rfl⟩
     rw [← hy] at ha HX hr
     have hyr : y ≤ 15 := hr.2
     clear hy hr
     by_cases hp : 0 ≤ y
     ·rw [if_pos hp] at ha
      have HA := Aside0.mk ha
      have q2 : decide (0 ≤ y) = true := decide_eq_true hp
      have HT := Aside0.mk (jtake_calls (wr.drewN 0) w.heap.size gh go gt h xs y)
      have hlen : (takeS (h, xs) y).2.length ≤ i + 1 := by have := HH.out.2.2; unfold takeS; split <;> simp <;> omega
      have hrng : -1 ≤ (takeS (h, xs) y).1 ∧ (takeS (h, xs) y).1 ≤ 15 := by unfold takeS; split <;> simp <;> omega
      have HL : Aside0 (_ ∧ _) := ⟨hlen, hrng⟩
      clear ha HT hlen hrng
      go_wp2_with (first | (go_at_call 68; (with_reducible refine (HX.out _).mono ?_); rintro e w3 ⟨rfl, ⟨nd3, rfl⟩⟩))
      refine (jtake_calls _ w.heap.size gh go gt h xs y (HD.out.drawn ⟨_, rfl⟩) hp hyr hd1 hd2 hd3 HB.out.size).mono ?_
      rintro e w5 ⟨rfl, k5, hb5⟩
      have HK5 : Aside0 (_ ∧ _) := ⟨k5, (pw_below_drewN HB.out nd3).trans hb5⟩
      clear k5 hb5
      go_wp2
      go_roundw
      case rel => exact ⟨i + 1, _, _, by omega, by go_num, HA, ⟨HK5.out.1⟩, ⟨HL.out.2.1, HL.out.2.2, HL.out.1⟩, ⟨HK5.out.2⟩⟩
      case measure => simp [intOf]; omega
     ·rw [if_neg hp] at ha
      have q2 : decide (0 ≤ y) = false := decide_eq_false hp
      have HKC := Aside0.mk (kind_calls x)
      obtain ⟨z, hz⟩ : ∃ z : Int, z = kF x := ⟨_, rfl⟩
      rw [← hz] at ha HKC
      clear hz
      by_cases hk : z = 0
      ·rw [if_pos hk] at ha
       subst hk
       have HA := Aside0.mk ha
       clear ha
       go_wp2_with (first | (go_at_call 68; (with_reducible refine (HX.out _).mono ?_); rintro e w3 ⟨rfl, ⟨nd3, rfl⟩⟩) | (go_at_call 70; (with_reducible refine (HKC.out _).mono ?_); rintro e w4 ⟨rfl, ⟨nd4, rfl⟩⟩))
       go_roundw
       case rel => exact ⟨i + 1, h, xs, by omega, by go_num, HA, ⟨HD.out.drawn ⟨_, rfl⟩⟩, ⟨by have := HH.out; omega⟩, ⟨pw_below_drewN HB.out _⟩⟩
       case measure => simp [intOf]; omega
      ·rw [if_neg hk] at ha
       have n0 : (z != 0) = true := bne_iff_ne.2 hk
       have n1 : (z == 0) = false := beq_eq_false_iff_ne.2 hk
       have HR := Aside0.mk ha
       clear ha
       go_wp2_with (first | (go_at_call 68; (with_reducible refine (HX.out _).mono ?_); rintro e w3 ⟨rfl, ⟨nd3, rfl⟩⟩) | (go_at_call 70; (with_reducible refine (HKC.out _).mono ?_); rintro e w4 ⟨rfl, ⟨nd4, rfl⟩⟩))
       repeat (rw [Exit.noGoto_ret])
       go_returns
       have hr := HR.out
       injection hr with hr1 hr2
       rw [← hr1, ← hr2]
       exact ⟨rfl, pw_below_drewN HB.out _⟩
   ·have q1 : decide ((i : Int) < (a0.size : Int)) = false := decide_eq_false (by omega)
    have ha := HA.out
    rw [List.drop_eq_nil_of_le (by rw [bytesOf_length]; omega), decB] at ha
    have HR := Aside0.mk ha
    clear ha
    go_wp2
    repeat (rw [Exit.noGoto_ret])
    go_returns
    have hr := HR.out
    injection hr with hr1 hr2
    rw [← hr1, ← hr2]
    exact ⟨rfl, HB.out⟩
 ·rw [if_neg hs] at h; cases h
end Go.Proofs.YtghoifkaikddlaaGreat.Hand
namespace Go.Proofs.YtghoifkaikddlaaGreat.Hand
open Go.RowKit Go.Proofs.YtghoifkaikddlaaGreatW.PrintWords Go.Proofs.YtghoifkaikddlaaGreatW.PrintLast Go.Proofs.YtghoifkaikddlaaGreatW.PrintMore Go.Proofs.YtghoifkaikddlaaGreat.Num Go.Proofs.YtghoifkaikddlaaGreat.P01a Go.Proofs.YtghoifkaikddlaaGreat.P06w
set_option linter.unusedVariables false
set_option linter.unusedSimpArgs false
def hexE (s : ByteArray) : ByteArray := strOfNums (hexL (bytesOf s) ++ [62])
def hexD (s : ByteArray) : ByteArray × Int := decB (bytesOf s) (-1) []
theorem str_sz (xs : List Int) : (strOfNums xs).size = xs.length := by rw [size_data, strOfNums_data, List.length_map]
theorem hexE_size (s : ByteArray) : (hexE s).size = 2 * s.size + 1 := by
 unfold hexE
 rw [str_sz, List.length_append, hexL_length, bytesOf_length]
 rfl
theorem decB_size : ∀ (cs : List Int) (h : Int) (xs : List Int), (decB cs h xs).1.size ≤ xs.length + cs.length
 | [], h, xs => Nat.zero_le _
 | c :: cs, h, xs => by
  have z : (⟨#[]⟩ : ByteArray).size = 0 := rfl
  rw [decB]
  split
  ·split
   ·rw [str_sz, List.length_cons]
    unfold toldS
    split
    ·rw [List.length_append, List.length_singleton]; omega
    ·omega
   ·rw [z]; omega
  ·split
   ·have ih := decB_size cs (takeS (h, xs) (hxF c)).1 (takeS (h, xs) (hxF c)).2
    have ht : (takeS (h, xs) (hxF c)).2.length ≤ xs.length + 1 := by
     unfold takeS
     split
     ·exact Nat.le_succ _
     ·rw [List.length_append, List.length_singleton]; exact Nat.le_refl _
    rw [List.length_cons]
    omega
   ·split
    ·have ih := decB_size cs h xs
     rw [List.length_cons]
     omega
    ·rw [z]; omega
theorem hexD_size (s : ByteArray) : (hexD s).1.size ≤ s.size := by
 have h := decB_size (bytesOf s) (-1) []
 rw [bytesOf_length] at h
 simpa [hexD] using h
theorem hexE_calls (s : ByteArray) (w : World) (hs : s.size ≤ 60000) : Calls Tryz.prog 49 #[.string s] w fun e w' => e = .returned (.string (hexE s)) ∧ Below w.heap.size w w' :=
 hexa_Encode.calls s _ w (by unfold hexa_Encode.f; rw [if_pos (by omega)]; rfl)
theorem hexD_calls (s : ByteArray) (w : World) (hs : s.size ≤ 60000) : Calls Tryz.prog 50 #[.string s] w fun e w' => e = .returned (.tuple #[.string (hexD s).1, .int .i64 (hexD s).2]) ∧ Below w.heap.size w w' :=
 hexa_Decode.calls s _ _ w (by unfold hexa_Decode.f; rw [if_pos (by omega)]; rfl)
theorem decB_encN (cs : List Int) (h : ∀ c ∈ cs, 0 ≤ c ∧ c < 256) : ∀ xs, decB (hexL cs ++ [62]) (-1) xs = (strOfNums (xs ++ cs), 0) := by
 have hd : ∀ n : Int, 0 ≤ n → n ≤ 15 → dgF n ≠ 62 ∧ hxF (dgF n) = n := fun n h0 h1 => by
  unfold dgF hxF
  by_cases hn : n < 10
  ·rw [if_pos hn, if_pos (by omega)]; omega
  ·rw [if_neg hn, if_neg (by omega), if_pos (by omega)]; omega
 induction cs with
 | nil =>
  intro xs
  show decB [62] (-1) xs = _
  rw [decB, if_pos rfl, if_pos (show whiteB [] = true from rfl), toldS, if_neg (by omega), List.append_nil]
 | cons c cs ih =>
  intro xs
  have hc := h c (List.mem_cons_self ..)
  obtain ⟨a1, a2⟩ := hd (c / 16) (by omega) (by omega)
  obtain ⟨b1, b2⟩ := hd (c % 16) (by omega) (by omega)
  show decB (dgF (c / 16) :: dgF (c % 16) :: (hexL cs ++ [62])) (-1) xs = _
  rw [decB, if_neg a1, a2, if_pos (by omega)]
  have e1 : takeS (-1, xs) (c / 16) = (c / 16, xs) := by unfold takeS; rw [if_pos (by simp only; omega)]
  rw [e1, decB, if_neg b1, b2, if_pos (by omega)]
  have e2 : takeS (c / 16, xs) (c % 16) = (-1, xs ++ [c]) := by unfold takeS; rw [if_neg (by simp only; omega)]; simp only; congr 3; omega
  simp only
  rw [e2]
  simp only
  rw [ih (fun c hc => h c (List.mem_cons_of_mem _ hc)), List.append_assoc]
  rfl
theorem hex_back (s : ByteArray) : hexD (hexE s) = (s, 0) := by
 unfold hexD hexE
 have hr := hexL_range (bytesOf s) (bytes_range s)
 rw [bytesOf_strOfNums _ (fun y hy => by
  rcases List.mem_append.1 hy with h | h
  ·exact hr y h
  ·rw [List.mem_singleton.1 h]; omega)]
 rw [decB_encN (bytesOf s) (bytes_range s), List.nil_append, strOfNums_bytesOf]
end Go.Proofs.YtghoifkaikddlaaGreat.Hand
