/- Tokens in plain numbers: the document's texts in brackets say the same. Tokens in plain numbers: what the document says a backslash means. Tokens in plain numbers: the document's texts in brackets say the same. Tokens in plain numbers: the document's Skip and Next say the same. -/
import Derived.Test.YtkmmmlbppobifaaLem15u
import Derived.Test.YtkmmmlbppobifaaP15rx3
namespace Go.Proofs.Ytkmmmlbppobifaa.Hand
open Go.RowKit Go.Proofs.YtkmmmlbppobifaaW.PrintWords Go.Proofs.YtkmmmlbppobifaaW.PrintLast Go.Proofs.YtkmmmlbppobifaaW.PrintMore Go.Proofs.Ytkmmmlbppobifaa.Num Go.Proofs.Ytkmmmlbppobifaa.P01b Go.Proofs.Ytkmmmlbppobifaa.P15r
set_option linter.unusedVariables false
set_option linter.unusedSimpArgs false
theorem ends_ref (s : ByteArray) (hs : s.size ≤ 2000) (p : Nat) (hp : p < s.size) : binderyref01_Ends.f s (p : Int) = some (endsN s p : Int) := by
 unfold binderyref01_Ends.f
 rw [if_pos (by omega), if_pos ⟨by omega, by omega⟩, Int.toNat_natCast]
theorem one_str (s : ByteArray) (p : Nat) (hp : p < s.size) : s.extract p (p + 1) = strOfNums [bt s (p : Int)] := by
 have hr := bt_range s (p : Int)
 apply bytes_ext
 rw [bytesOf_strOfNums _ (by intro x hx; rw [List.mem_singleton.1 hx]; omega), bytesOf_extract, List.drop_take, show p + 1 - p = 1 by omega, drop_bytes s p hp]
 rfl
def octB : Nat → Int
 | 0 => 0
 | j + 1 => 8 * octB j + 7
theorem octB_le (j : Nat) (h : j ≤ 3) : octB j ≤ 511 := by
 have key : ∀ i : Fin 4, octB i.val ≤ 511 := by decide +kernel
 exact key ⟨j, by omega⟩
def meantR (s : ByteArray) (p : Nat) (r : Nat × Int) : ByteArray × Int := if r.1 = p then (s.extract p (p + 1), ((p + 1 : Nat) : Int)) else (strOfNums [r.2 % 256], (r.1 : Int))
theorem meant_stop (s : ByteArray) (hs : s.size ≤ 2000) (p j : Nat) (v : Int) (hp : p < s.size) (hj : p + j ≤ s.size) (hv0 : 0 ≤ v) (g : Option (ByteArray × Int)) (hg : g = (if (j : Int) > 0 then (some (strOfNums (([(Int.tmod v 256) % 256] : List Int)), ((p + j : Nat) : Int))) else (if 0 ≤ (p : Int) then (if (p : Int) ≤ (wrap64 ((p : Int) + 1)) then (if (wrap64 ((p : Int) + 1)) ≤ (s.size : Int) then (some (s.extract (p : Int).toNat ((wrap64 ((p : Int) + 1)) : Int).toNat, wrap64 ((p : Int) + 1))) else (none)) else (none)) else (none)))) :
  g = some (meantR s p (p + j, v)) := by
 have p0 : (0 : Int) ≤ (p : Int) := Int.natCast_nonneg p
 have w1 : wrap64 ((p : Int) + 1) = ((p + 1 : Nat) : Int) := by rw [w64 (by omega) (by omega)]; rfl
 have p1 : (p : Int) ≤ ((p + 1 : Nat) : Int) := by omega
 have p2 : ((p + 1 : Nat) : Int) ≤ (s.size : Int) := by omega
 have hmod : Int.tmod v 256 % 256 = v % 256 := by rw [Int.tmod_eq_emod_of_nonneg hv0, Int.emod_emod]
 rw [hg, hmod, w1]
 unfold meantR
 dsimp only
 by_cases h : j = 0
 ·subst h
  rw [if_neg (by decide), if_pos p0, if_pos p1, if_pos p2, if_pos (Nat.add_zero p), Int.toNat_natCast, Int.toNat_natCast]
 ·rw [if_pos (by omega), if_neg (by omega)]
theorem oct_wrap (v c : Int) (hv0 : 0 ≤ v) (hv : v ≤ 511) (hc0 : 0 ≤ c) (hc : c ≤ 255) : wrap64 ((wrap64 ((wrap64 (8 * v)) + (wrap64 c))) - 48) = 8 * v + (c - 48) := by
 rw [w64 (x := 8 * v) (by omega) (by omega), w64 (x := c) (by omega) (by omega), w64 (x := 8 * v + c) (by omega) (by omega), w64 (by omega) (by omega)]; omega
theorem oct_ref (s : ByteArray) (hs : s.size ≤ 2000) (p : Nat) (hp : p < s.size) : ∀ (d j : Nat) (v : Int), j + d = 3 → p + j ≤ s.size → 0 ≤ v → v ≤ octB j →
  Ev (fun n => binderyref15_meant.l1 n s (p : Int) v (j : Int)) (meantR s p (octF s d (p + j) v)) := by
 intro d
 induction d with
 | zero =>
  intro j v hj hpj hv0 hv1
  have wj : wrap64 ((p : Int) + (j : Int)) = ((p + j : Nat) : Int) := by rw [w64 (by omega) (by omega)]; rfl
  rw [octF]
  refine evE 1 (fun n hn => ?_)
  rw [binderyref15_meant.l1, if_neg (by omega), wj]
  exact meant_stop s hs p j v hp hpj hv0 _ rfl
 | succ d ih =>
  intro j v hj hpj hv0 hv1
  have wj : wrap64 ((p : Int) + (j : Int)) = ((p + j : Nat) : Int) := by rw [w64 (by omega) (by omega)]; rfl
  have hj3 : (j : Int) < 3 := by omega
  rw [octF]
  by_cases h1 : p + j < s.size
  ·have q1 : ((p + j : Nat) : Int) < (s.size : Int) := by omega
   have q0 : (0 : Int) ≤ ((p + j : Nat) : Int) := Int.natCast_nonneg _
   have hr := bt_range s ((p + j : Nat) : Int)
   by_cases h48 : 48 ≤ bt s ((p + j : Nat) : Int)
   ·by_cases h55 : bt s ((p + j : Nat) : Int) ≤ 55
    ·rw [if_pos ⟨h1, h48, h55⟩]
     have hle := octB_le j (by omega)
     have hw := oct_wrap v (bt s ((p + j : Nat) : Int)) hv0 (by omega) hr.1 hr.2
     have wk : wrap64 ((j : Int) + 1) = ((j + 1 : Nat) : Int) := by rw [w64 (by omega) (by omega)]; rfl
     have hb : 8 * v + (bt s ((p + j : Nat) : Int) - 48) ≤ octB (j + 1) := by rw [octB]; omega
     have hb0 : 0 ≤ 8 * v + (bt s ((p + j : Nat) : Int) - 48) := by omega
     have e := ih (j + 1) (8 * v + (bt s ((p + j : Nat) : Int) - 48)) (by omega) (by omega) hb0 hb
     refine evS 1 e (fun n hn => ?_)
     rw [binderyref15_meant.l1, if_pos hj3, wj, if_pos q1, if_pos q0, if_pos h48, if_pos h55, hw, wk]
    ·rw [if_neg (fun h => h55 h.2.2)]
     refine evE 1 (fun n hn => ?_)
     rw [binderyref15_meant.l1, if_pos hj3, wj, if_pos q1, if_pos q0, if_pos h48, if_neg h55]
     exact meant_stop s hs p j v hp hpj hv0 _ rfl
   ·rw [if_neg (fun h => h48 h.2.1)]
    refine evE 1 (fun n hn => ?_)
    rw [binderyref15_meant.l1, if_pos hj3, wj, if_pos q1, if_pos q0, if_neg (fun h => h48 h)]
    exact meant_stop s hs p j v hp hpj hv0 _ rfl
  ·rw [if_neg (fun h => h1 h.1)]
   refine evE 1 (fun n hn => ?_)
   rw [binderyref15_meant.l1, if_pos hj3, wj, if_neg (by omega)]
   exact meant_stop s hs p j v hp hpj hv0 _ rfl
end Go.Proofs.Ytkmmmlbppobifaa.Hand
namespace Go.Proofs.Ytkmmmlbppobifaa.Hand
open Go.RowKit Go.Proofs.YtkmmmlbppobifaaW.PrintWords Go.Proofs.YtkmmmlbppobifaaW.PrintLast Go.Proofs.YtkmmmlbppobifaaW.PrintMore Go.Proofs.Ytkmmmlbppobifaa.Num Go.Proofs.Ytkmmmlbppobifaa.P01b Go.Proofs.Ytkmmmlbppobifaa.P15r
set_option linter.unusedVariables false
set_option linter.unusedSimpArgs false
abbrev mL : ByteArray := ⟨#[110, 114, 116, 98, 102]⟩
abbrev mT : ByteArray := ⟨#[10, 13, 9, 8, 12]⟩
def toM : Option (List Int × Nat) → ByteArray × Int
 | none => (⟨#[]⟩, -1)
 | some (xs, e) => (strOfNums xs, (e : Int))
theorem mT_all : ∀ i : Fin 5, mT.extract i.val (i.val + 1) = strOfNums [mapE (bt mL ((i.val : Nat) : Int))] := by decide +kernel
theorem l0_step (s : ByteArray) (hs : s.size ≤ 2000) (q : Nat) (hq : q < s.size) (i : Nat) (hi : i < 5) (n : Nat) : binderyref15_meant.l0 (n + 1) s (q : Int) mL mT (i : Int) = if bt s (q : Int) = bt mL (i : Int) then some (mT.extract i (i + 1), ((q + 1 : Nat) : Int)) else binderyref15_meant.l0 n s (q : Int) mL mT ((i + 1 : Nat) : Int) := by
 have z1 : ((mL.size : Nat) : Int) = 5 := rfl
 have z2 : ((mT.size : Nat) : Int) = 5 := rfl
 have p0 : (0 : Int) ≤ (q : Int) := Int.natCast_nonneg q
 have p1 : (q : Int) < (s.size : Int) := by omega
 have w1 : wrap64 ((q : Int) + 1) = ((q + 1 : Nat) : Int) := by rw [w64 (by omega) (by omega)]; rfl
 have w2 : wrap64 ((i : Int) + 1) = ((i + 1 : Nat) : Int) := by rw [w64 (by omega) (by omega)]; rfl
 have i0 : (0 : Int) ≤ (i : Int) := Int.natCast_nonneg i
 have i5 : (i : Int) < 5 := by omega
 have i1 : (i : Int) ≤ ((i + 1 : Nat) : Int) := by omega
 have i2 : ((i + 1 : Nat) : Int) ≤ 5 := by omega
 rw [binderyref15_meant.l0, z1, if_pos i5, if_pos p0, if_pos p1, if_pos i0]
 by_cases h : bt s (q : Int) = bt mL (i : Int)
 ·rw [if_pos h, if_pos h, w2, w1, z2, if_pos i1, if_pos i2, Int.toNat_natCast, Int.toNat_natCast]
 ·rw [if_neg h, if_neg h, w2]
theorem mL_all : bt mL 0 = 110 ∧ bt mL 1 = 114 ∧ bt mL 2 = 116 ∧ bt mL 3 = 98 ∧ bt mL 4 = 102 := by decide +kernel
theorem mapE_none (c : Int) (h : ∀ i : Nat, i < 5 → c ≠ bt mL (i : Int)) : mapE c = c := by
 obtain ⟨a0, a1, a2, a3, a4⟩ := mL_all
 have h0 := h 0 (by decide)
 have h1 := h 1 (by decide)
 have h2 := h 2 (by decide)
 have h3 := h 3 (by decide)
 have h4 := h 4 (by decide)
 unfold mapE
 rw [if_neg (fun e => h0 (e.trans a0.symm)), if_neg (fun e => h1 (e.trans a1.symm)), if_neg (fun e => h2 (e.trans a2.symm)), if_neg (fun e => h3 (e.trans a3.symm)), if_neg (fun e => h4 (e.trans a4.symm))]
theorem letters_ref (s : ByteArray) (hs : s.size ≤ 2000) (q : Nat) (hq : q < s.size) (r : ByteArray × Int) (hr : ∀ i : Nat, i < 5 → bt s (q : Int) = bt mL (i : Int) → r = (strOfNums [mapE (bt s (q : Int))], ((q + 1 : Nat) : Int))) (hn : (∀ i : Nat, i < 5 → bt s (q : Int) ≠ bt mL (i : Int)) → Ev (fun n => binderyref15_meant.l1 n s (q : Int) 0 0) r) :
  ∀ (d i : Nat), i + d = 5 → (∀ j, j < i → bt s (q : Int) ≠ bt mL (j : Int)) → Ev (fun n => binderyref15_meant.l0 n s (q : Int) mL mT (i : Int)) r := by
 intro d
 induction d with
 | zero =>
  intro i hi hj
  refine evS 1 (hn (fun j h => hj j (by omega))) (fun n _ => ?_)
  rw [binderyref15_meant.l0, if_neg (by rw [show ((mL.size : Nat) : Int) = 5 from rfl]; omega)]
 | succ d ih =>
  intro i hi hj
  by_cases h : bt s (q : Int) = bt mL (i : Int)
  ·rw [hr i (by omega) h]
   refine evE 1 (fun n _ => ?_)
   rw [l0_step s hs q hq i (by omega), if_pos h, mT_all ⟨i, by omega⟩, h]
  ·refine evS 1 (ih (i + 1) (by omega) (fun j hj2 => ?_)) (fun n _ => ?_)
   ·by_cases e : j = i
    ·subst e; exact h
    ·exact hj j (by omega)
   ·rw [l0_step s hs q hq i (by omega), if_neg h]
theorem meant_ref (s : ByteArray) (hs : s.size ≤ 2000) (q : Nat) (hq : q ≤ s.size) : Ev (fun k => binderyref15_meant.f k s (q : Int)) (toM (escapeF s q)) := by
 unfold escapeF
 by_cases hlt : q < s.size
 ·have hE := ends_ref s hs q hlt
  have hel := ends_le2 s q
  rw [if_pos hlt]
  by_cases he : 0 < endsN s q
  ·rw [if_pos he]
   refine evE 0 (fun n _ => ?_)
   unfold binderyref15_meant.f
   rw [if_neg (by omega), hE, Option.bind_some, if_pos (by omega), w64 (by omega) (by omega)]
   rfl
  ·rw [if_neg he]
   have hmain := letters_ref s hs q hlt (toM (if 48 ≤ bt s (q : Int) ∧ bt s (q : Int) ≤ 55 then some ([(octF s 3 q 0).2 % 256], (octF s 3 q 0).1) else some ([mapE (bt s (q : Int))], q + 1))) (fun i hi h => by
     have hd : ∀ i : Fin 5, ¬ (48 ≤ bt mL ((i.val : Nat) : Int) ∧ bt mL ((i.val : Nat) : Int) ≤ 55) := by decide +kernel
     rw [if_neg (by rw [h]; exact hd ⟨i, hi⟩)]; rfl) (fun h => by
     have e := oct_ref s hs q hlt 3 0 0 (by decide) (by omega) (by decide) (by decide)
     rw [Nat.add_zero] at e
     by_cases hd : 48 ≤ bt s (q : Int) ∧ bt s (q : Int) ≤ 55
     ·rw [if_pos hd]
      have hg : q + 1 ≤ (octF s 3 q 0).1 := by
       rw [octF, if_pos ⟨hlt, hd⟩]
       exact (octF_ge s 2 (q + 1) _ (by omega)).1
      have hm : meantR s q (octF s 3 q 0) = toM (some ([(octF s 3 q 0).2 % 256], (octF s 3 q 0).1)) := by
       unfold meantR
       rw [if_neg (by omega)]; rfl
      rw [← hm]; exact e
     ·rw [if_neg hd]
      have ho : octF s 3 q 0 = (q, 0) := by rw [octF, if_neg (fun h => hd h.2)]
      have hm : meantR s q (octF s 3 q 0) = toM (some ([mapE (bt s (q : Int))], q + 1)) := by
       rw [ho]
       unfold meantR
       rw [if_pos rfl, one_str s q hlt, mapE_none _ h]; rfl
      rw [← hm]; exact e) 5 0 (by decide) (fun j hj => absurd hj (by omega))
   refine Ev.congr (fun k => ?_) hmain
   unfold binderyref15_meant.f
   rw [if_neg (by omega), hE, Option.bind_some, if_neg (by omega)]
   rfl
 ·rw [if_neg hlt]
  refine evE 0 (fun n _ => ?_)
  unfold binderyref15_meant.f
  rw [if_pos (by omega)]; rfl
end Go.Proofs.Ytkmmmlbppobifaa.Hand
namespace Go.Proofs.Ytkmmmlbppobifaa.Hand
open Go.RowKit Go.Proofs.YtkmmmlbppobifaaW.PrintWords Go.Proofs.YtkmmmlbppobifaaW.PrintLast Go.Proofs.YtkmmmlbppobifaaW.PrintMore Go.Proofs.Ytkmmmlbppobifaa.Num Go.Proofs.Ytkmmmlbppobifaa.P01b Go.Proofs.Ytkmmmlbppobifaa.P15r
set_option linter.unusedVariables false
set_option linter.unusedSimpArgs false
theorem str_app (a b : List Int) : strOfNums a ++ strOfNums b = strOfNums (a ++ b) := by
 apply ByteArray.ext
 rw [ByteArray.data_append]
 unfold strOfNums
 simp
theorem j1_step (s : ByteArray) (o xs : List Int) (d : Nat) (e : Nat) (hd : 1 ≤ d) (ho : o.length + xs.length ≤ 3000) (n : Nat) : binderyref15_plain.j1 (n + 1) s (strOfNums o) (d : Int) (strOfNums xs) (e : Int) = binderyref15_plain.l0 n s (e : Int) (strOfNums (o ++ xs)) (d : Int) := by
 rw [binderyref15_plain.j1, if_neg (by omega), if_pos (by rw [strOfNums_size, strOfNums_size]; omega), str_app, if_neg (by rw [strOfNums_size, List.length_append]; omega)]
theorem plain_ref (s : ByteArray) (hs : s.size ≤ 2000) : ∀ (k p d : Nat) (o : List Int), p ≤ s.size → s.size < p + k → o.length ≤ p → 1 ≤ d → d ≤ p + 1 → Ev (fun n => binderyref15_plain.l0 n s (p : Int) (strOfNums o) (d : Int)) (toR (textF s k p d o))
 | 0, p, d, o, hp, hk, _, _, _ => absurd hk (by omega)
 | k + 1, p, d, o, hp, hk, ho, hd, hdp => by
  rw [textF]
  by_cases hlt : p < s.size
  ·have p1 : (p : Int) < (s.size : Int) := by omega
   have p0 : (0 : Int) ≤ (p : Int) := Int.natCast_nonneg p
   have w1 : wrap64 ((p : Int) + 1) = ((p + 1 : Nat) : Int) := by rw [w64 (by omega) (by omega)]; rfl
   have p2 : (p : Int) ≤ ((p + 1 : Nat) : Int) := by omega
   have p3 : ((p + 1 : Nat) : Int) ≤ (s.size : Int) := by omega
   have hE := ends_ref s hs p hlt
   have hel := endsN_le s p hp
   rw [if_pos hlt]
   have head : ∀ n, binderyref15_plain.l0 (n + 1) s (p : Int) (strOfNums o) (d : Int) = (if (endsN s p : Int) > 0 then (binderyref15_plain.j1 n s (strOfNums o) (d : Int) (⟨#[10]⟩ : ByteArray) (wrap64 ((p : Int) + (endsN s p : Int)))) else (if (bt s (p : Int)) = 92 then ((binderyref15_meant.f n s ((p + 1 : Nat) : Int)).bind fun bt132 => (if bt132.2 < 0 then (some ((⟨#[]⟩ : ByteArray), 0, 5)) else (binderyref15_plain.j1 n s (strOfNums o) (d : Int) bt132.1 bt132.2))) else (if (bt s (p : Int)) = 40 then (binderyref15_plain.j1 n s (strOfNums o) (wrap64 ((d : Int) + 1)) (s.extract p (p + 1)) ((p + 1 : Nat) : Int)) else (if (bt s (p : Int)) = 41 then (binderyref15_plain.j1 n s (strOfNums o) (wrap64 ((d : Int) - 1)) (s.extract p (p + 1)) ((p + 1 : Nat) : Int)) else (binderyref15_plain.j1 n s (strOfNums o) (d : Int) (s.extract p (p + 1)) ((p + 1 : Nat) : Int)))))) := fun n => by
    rw [binderyref15_plain.l0, if_pos p1, if_pos p0, w1, if_pos p2, if_pos p3, hE, Option.bind_some, Int.toNat_natCast, Int.toNat_natCast]
   by_cases he : 0 < endsN s p
   ·rw [if_pos he]
    have w2 : wrap64 ((p : Int) + (endsN s p : Int)) = ((p + endsN s p : Nat) : Int) := by rw [w64 (by omega) (by omega)]; rfl
    refine evS 2 (plain_ref s hs k (p + endsN s p) d (o ++ [10]) hel (by omega) (by rw [List.length_append, List.length_singleton]; omega) hd (by omega)) (fun n _ => ?_)
    rw [head, if_pos (by omega), w2, show (⟨#[10]⟩ : ByteArray) = strOfNums [10] from rfl, j1_step s o [10] d _ hd (by simp; omega)]
   ·rw [if_neg he]
    have he2 : ¬ (endsN s p : Int) > 0 := by omega
    by_cases h92 : bt s (p : Int) = 92
    ·rw [if_pos h92]
     have hm := meant_ref s hs (p + 1) (by omega)
     cases hx : escapeF s (p + 1) with
     | none =>
      rw [hx] at hm
      dsimp only
      rw [toR_bad (by decide)]
      refine evS 1 (Ev.bind (f := fun n bt132 => (if bt132.2 < 0 then (some ((⟨#[]⟩ : ByteArray), (0 : Int), (5 : Int))) else (binderyref15_plain.j1 n s (strOfNums o) (d : Int) bt132.1 bt132.2))) hm ⟨0, fun n _ => rfl⟩) (fun n _ => ?_)
      rw [head, if_neg he2, if_pos h92]
     | some r =>
      obtain ⟨xs, q⟩ := r
      rw [hx] at hm
      have hr := escapeF_range (by omega) hx
      have e := plain_ref s hs k q d (o ++ xs) hr.2.1 (by omega) (by rw [List.length_append]; omega) hd (by omega)
      have hq0 : ¬ ((q : Nat) : Int) < 0 := by omega
      have e2 : Ev (fun n => binderyref15_plain.j1 n s (strOfNums o) (d : Int) (strOfNums xs) (q : Int)) (toR (textF s k q d (o ++ xs))) := evS 1 e (fun n _ => j1_step s o xs d q hd (by omega) n)
      refine evS 1 (Ev.bind (f := fun n bt132 => (if bt132.2 < 0 then (some ((⟨#[]⟩ : ByteArray), (0 : Int), (5 : Int))) else (binderyref15_plain.j1 n s (strOfNums o) (d : Int) bt132.1 bt132.2))) hm (Ev.congr (fun n => (by rw [if_neg (show ¬ (toM (some (xs, q))).2 < 0 from hq0)]; rfl)) e2)) (fun n _ => ?_)
      rw [head, if_neg he2, if_pos h92]
    ·rw [if_neg h92]
     have hone := one_str s p hlt
     by_cases h40 : bt s (p : Int) = 40
     ·rw [if_pos h40]
      have wd : wrap64 ((d : Int) + 1) = ((d + 1 : Nat) : Int) := by rw [w64 (by omega) (by omega)]; rfl
      rw [h40] at hone
      refine evS 2 (plain_ref s hs k (p + 1) (d + 1) (o ++ [40]) hlt (by omega) (by rw [List.length_append, List.length_singleton]; omega) (by omega) (by omega)) (fun n _ => ?_)
      rw [head, if_neg he2, if_neg h92, if_pos h40, wd, hone, j1_step s o [40] (d + 1) _ (by omega) (by simp; omega)]
     ·rw [if_neg h40]
      by_cases h41 : bt s (p : Int) = 41
      ·rw [if_pos h41]
       have wd : wrap64 ((d : Int) - 1) = ((d - 1 : Nat) : Int) := by rw [w64 (by omega) (by omega)]; omega
       rw [h41] at hone
       by_cases hd1 : d = 1
       ·rw [if_pos hd1, toR_ok]
        refine evE 2 (fun n _ => ?_)
        rw [head, if_neg he2, if_neg h92, if_neg h40, if_pos h41, wd, binderyref15_plain.j1, if_pos (by omega)]
       ·rw [if_neg hd1]
        refine evS 2 (plain_ref s hs k (p + 1) (d - 1) (o ++ [41]) hlt (by omega) (by rw [List.length_append, List.length_singleton]; omega) (by omega) (by omega)) (fun n _ => ?_)
        rw [head, if_neg he2, if_neg h92, if_neg h40, if_pos h41, wd, hone, j1_step s o [41] (d - 1) _ (by omega) (by simp; omega)]
      ·rw [if_neg h41]
       refine evS 2 (plain_ref s hs k (p + 1) d (o ++ [bt s (p : Int)]) hlt (by omega) (by rw [List.length_append, List.length_singleton]; omega) hd (by omega)) (fun n _ => ?_)
       rw [head, if_neg he2, if_neg h92, if_neg h40, if_neg h41, hone, j1_step s o _ d _ hd (by simp; omega)]
  ·rw [if_neg hlt, toR_bad (by decide)]
   refine evE 1 (fun n hn => ?_)
   rw [binderyref15_plain.l0, if_neg (by omega)]
end Go.Proofs.Ytkmmmlbppobifaa.Hand
namespace Go.Proofs.Ytkmmmlbppobifaa.Hand
open Go.RowKit Go.Proofs.YtkmmmlbppobifaaW.PrintWords Go.Proofs.YtkmmmlbppobifaaW.PrintLast Go.Proofs.YtkmmmlbppobifaaW.PrintMore Go.Proofs.Ytkmmmlbppobifaa.Num Go.Proofs.Ytkmmmlbppobifaa.P01b Go.Proofs.Ytkmmmlbppobifaa.P15r
set_option linter.unusedVariables false
set_option linter.unusedSimpArgs false
theorem skipf_ref (s : ByteArray) (hs : s.size ≤ 2000) (a : Int) : Ev (fun k => binderyref15_Skip.f k s a) ((skipN s a : Nat) : Int) := by
 have hm : mx 0 a = max 0 a := by unfold mx; split <;> omega
 by_cases h : a ≤ (s.size : Int)
 ·have hp : max 0 a = ((clampN s a : Nat) : Int) := by unfold clampN; omega
  have hle := clampN_le s a
  have e := skip_ref s hs (s.size - clampN s a) (clampN s a) false (by omega)
  rw [rsN_skip s s.size (s.size - clampN s a) (clampN s a) (s.size + 1) (by omega) (by omega) (by omega)] at e
  refine Ev.congr (fun k => ?_) e
  unfold binderyref15_Skip.f
  rw [hm, hp]
 ·have hc : clampN s a = s.size := by unfold clampN; omega
  have hle := skipN_le s a
  have hge := skipN_ge s a
  have hq : skipN s a = s.size := by omega
  rw [hq]
  refine evE 1 (fun n _ => ?_)
  unfold binderyref15_Skip.f
  rw [hm, binderyref15_Skip.l0, if_neg (by omega)]
theorem two_eq (s : ByteArray) (q : Nat) (hq : q < s.size) (x : UInt8) : (s.extract q (min s.size (q + 2))).toList = ([x, x] : List UInt8) ↔ (bt s (q : Int) = (x.toNat : Int) ∧ twiceB s q = true) := by
 by_cases h : q + 1 < s.size
 ·rw [show min s.size (q + 2) = q + 2 by omega]
  have e := two48 s q h x x
  rw [← beq_iff_eq, e, decide_eq_true_eq]
  unfold twiceB
  rw [decide_eq_true_eq]
  constructor
  ·intro h2; exact ⟨h2.1, h, h2.2.trans h2.1.symm⟩
  ·intro h2; exact ⟨h2.1, h2.2.2.trans h2.1⟩
 ·constructor
  ·intro h2
   have h3 := congrArg List.length h2
   rw [ByteArray.toList_eq, Array.length_toList] at h3
   have h4 : (s.extract q (min s.size (q + 2))).size = 2 := h3
   rw [ByteArray.size_extract] at h4
   omega
  ·intro h2
   have := (of_decide_eq_true h2.2).1
   exact absurd this h
def toN (r : Int × Tok) : Int × Int × ByteArray × Int × Int × Int := (r.2.kind, r.2.n, r.2.s, r.2.at_, r.2.end_, r.1)
theorem sign_ref (K : Int) (q : Nat) (r : Int × List Int × Nat) : binderyref15_sign.f K (q : Int) (toR r).1 (toR r).2.1 (toR r).2.2 = some (toW q (tokOf K r)) := by
 obtain ⟨c, o, p⟩ := r
 unfold binderyref15_sign.f toR tokOf toW
 dsimp only
 by_cases h : c = 0
 ·subst h; rfl
 ·simp only [if_neg h]
theorem next_tok (s : ByteArray) (a : Int) (h : skipN s a ≠ s.size) : toN (nextF s a) = toW (skipN s a) (tokenF s (skipN s a)) := by
 unfold nextF toN toW
 rw [if_neg h]
 by_cases h2 : (tokenF s (skipN s a)).1 = 0
 ·rw [if_pos h2, if_pos h2]
 ·rw [if_neg h2, if_neg h2]
theorem ev6 {g : Nat → Option (Int × Int × ByteArray × Int × Int × Int)} {r : Int × Int × ByteArray × Int × Int × Int} (h : Ev g r) : Ev (fun k => (g k).bind fun b => some (b.1, b.2.1, b.2.2.1, b.2.2.2.1, b.2.2.2.2.1, b.2.2.2.2.2)) r := Ev.bind (f := fun _ b => some (b.1, b.2.1, b.2.2.1, b.2.2.2.1, b.2.2.2.2.1, b.2.2.2.2.2)) h (Ev.now _)
theorem ev_sign {g : Nat → Option (ByteArray × Int × Int)} {r : Int × List Int × Nat} (K : Int) (q : Nat) (h : Ev g (toR r)) : Ev (fun k => (g k).bind fun b => ((binderyref15_sign.f K (q : Int) b.1 b.2.1 b.2.2).bind fun b => some (b.1, b.2.1, b.2.2.1, b.2.2.2.1, b.2.2.2.2.1, b.2.2.2.2.2))) (toW q (tokOf K r)) :=
 Ev.bind (f := fun _ b => ((binderyref15_sign.f K (q : Int) b.1 b.2.1 b.2.2).bind fun b => some (b.1, b.2.1, b.2.2.1, b.2.2.2.1, b.2.2.2.2.1, b.2.2.2.2.2))) h (by rw [sign_ref]; exact Ev.now _)
theorem next_ref (s : ByteArray) (hs : s.size ≤ 2000) (a : Int) : Ev (fun k => binderyref15_Next.f k s a) (toN (nextF s a)) := by
 have hS := skipf_ref s hs a
 have hle := skipN_le s a
 unfold binderyref15_Next.f
 refine Ev.bind hS ?_
 by_cases hq : skipN s a = s.size
 ·have hN : toN (nextF s a) = (0, 0, ⟨#[]⟩, ((skipN s a : Nat) : Int), ((skipN s a : Nat) : Int), 0) := by
   unfold nextF; rw [if_pos hq]; rfl
  rw [hN]
  refine Ev.congr (fun k => ?_) (Ev.now _)
  rw [if_pos (by omega)]
 ·have hat := skipF_at s (s.size + 1) (clampN s a) (clampN_le s a) (by omega) (show skipN s a < s.size by omega)
  rw [show skipF s (s.size + 1) (clampN s a) = skipN s a from rfl] at hat
  rw [next_tok s a hq]
  generalize skipN s a = q at *
  have hlt : q < s.size := by omega
  have p0 : (0 : Int) ≤ (q : Int) := Int.natCast_nonneg q
  have p1 : (q : Int) < (s.size : Int) := by omega
  have pn : ¬ (q : Int) = (s.size : Int) := by omega
  have w2 : wrap64 ((q : Int) + 2) = ((q + 2 : Nat) : Int) := by rw [w64 (by omega) (by omega)]; rfl
  have w1 : wrap64 ((q : Int) + 1) = ((q + 1 : Nat) : Int) := by rw [w64 (by omega) (by omega)]; rfl
  have hM : mn (s.size : Int) ((q + 2 : Nat) : Int) = ((min s.size (q + 2) : Nat) : Int) := by unfold mn; split <;> omega
  have m1 : (q : Int) ≤ ((min s.size (q + 2) : Nat) : Int) := by omega
  have m2 : ((min s.size (q + 2) : Nat) : Int) ≤ (s.size : Int) := by omega
  have t60 := two_eq s q hlt 60
  have t62 := two_eq s q hlt 62
  rw [show ((60 : UInt8).toNat : Int) = 60 from rfl] at t60
  rw [show ((62 : UInt8).toNat : Int) = 62 from rfl] at t62
  unfold tokenF
  simp only [w2, w1, hM, if_neg pn, if_pos p0, if_pos m1, if_pos m2, if_pos p1, Int.toNat_natCast, t60, t62]
  have hname := name_ref s hs s.size (q + 1) [] hlt (by omega) (by decide)
  have hplain := plain_ref s hs s.size (q + 1) 1 [] hlt (by omega) (Nat.zero_le _) (by decide) (by omega)
  have hhex := hexl_ref s hs s.size (q + 1) [] (-1) hlt (by omega) (Nat.zero_le _) (by decide) (by decide)
  have hword := word_ref s hs q (by omega)
  by_cases h91 : bt s (q : Int) = 91
  ·simp only [h91, if_true]; exact Ev.now _
  by_cases h93 : bt s (q : Int) = 93
  ·simp only [h93]; exact Ev.now _
  simp only [if_neg h91, if_neg h93]
  have hk1 : ∀ (g : Nat → Option (Int × Int × ByteArray × Int × Int × Int)), kF (bt s (q : Int)) = 1 → Ev (fun k => (binderyref01_Kind.f k (bt s (q : Int))).bind fun t183 => (if t183 = 1 then (some (0, 0, (⟨#[]⟩ : ByteArray), 0, 0, 4)) else g k)) (0, 0, ⟨#[]⟩, 0, 0, 4) := fun g hk => evE 0 (fun n hn => by
   show (binderyref01_Kind.f n (bt s (q : Int))).bind _ = _
   rw [kref s q n hn, Option.bind_some, if_pos hk])
  by_cases h60 : bt s (q : Int) = 60
  ·by_cases htw : twiceB s q = true
   ·simp only [h60, htw, and_self, if_true]; exact Ev.now _
   ·have e := ev_sign 3 q hhex
    simp only [h60, htw] at e ⊢
    exact e
  by_cases h62 : bt s (q : Int) = 62
  ·by_cases htw : twiceB s q = true
   ·simp only [h62, htw]; exact Ev.now _
   ·have e := hk1 (fun k => (binderyref15_word.f k s (q : Int)).bind fun b => some (b.1, b.2.1, b.2.2.1, b.2.2.2.1, b.2.2.2.2.1, b.2.2.2.2.2)) (by rw [h62]; decide)
    simp only [h62, htw] at e ⊢
    exact e
  have n60 : ¬ (bt s (q : Int) = 60 ∧ twiceB s q = true) := fun h => h60 h.1
  have n62 : ¬ (bt s (q : Int) = 62 ∧ twiceB s q = true) := fun h => h62 h.1
  simp only [if_neg n60, if_neg n62]
  by_cases h47 : bt s (q : Int) = 47
  ·simp only [if_pos h47]; exact ev_sign 2 q hname
  simp only [if_neg h47]
  by_cases h40 : bt s (q : Int) = 40
  ·simp only [if_pos h40]; exact ev_sign 3 q hplain
  simp only [if_neg h40, if_neg h60, if_neg h62]
  by_cases h7 : bt s (q : Int) = 41 ∨ bt s (q : Int) = 123 ∨ bt s (q : Int) = 125
  ·rw [if_pos h7]
   exact hk1 _ (by rcases h7 with h | h | h <;> rw [h] <;> decide)
  ·rw [if_neg h7]
   have h2k := kF_del _ (bt_range s q) hat.1 h91 h93 h47 h40 h60 h62 h7 hat.2
   obtain ⟨K, h⟩ := ev6 hword
   refine ⟨K + 20, fun k hk => ?_⟩
   dsimp only
   rw [kref s q k (by omega), Option.bind_some, if_neg (by rw [h2k]; decide)]
   exact h k (by omega)
end Go.Proofs.Ytkmmmlbppobifaa.Hand
