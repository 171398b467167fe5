/- Codes: what the document's own functions tell. -/
import Derived.Test.YtbgdadehjnifeaaGreatLem09
import Derived.Test.YtbgdadehjnifeaaGreatLem08g
namespace Go.Proofs.YtbgdadehjnifeaaGreat.Hand
open Go.RowKit Go.Proofs.YtbgdadehjnifeaaGreatW.PrintWords Go.Proofs.YtbgdadehjnifeaaGreatW.PrintLast Go.Proofs.YtbgdadehjnifeaaGreatW.PrintMore Go.Proofs.YtbgdadehjnifeaaGreat.Num Go.Proofs.YtbgdadehjnifeaaGreat.Bits Go.Proofs.YtbgdadehjnifeaaGreat.P09r
set_option linter.unusedVariables false
set_option linter.unusedSimpArgs false
theorem longest_ev {l : List Int} (h : mayF l = 0) : Ev (fun k => binderyref09_Longest.f k l) (lgA l 16) := by
 obtain ⟨hlen, hx⟩ := may_zero h
 have key : ∀ (t : List Int) (i : Nat) (m : Int), l.drop i = t → i ≤ l.length → 0 ≤ m → m ≤ 15 → ∃ r, Ev (fun k => binderyref09_Longest.l0 k l m i) r ∧ (r = m ∨ r ∈ t) ∧ m ≤ r ∧ ∀ x ∈ t, x ≤ r := by
  intro t
  induction t with
  | nil =>
   intro i m hd hi h0 h1
   have h2 : l.length ≤ i := by have := congrArg List.length hd; rw [List.length_drop] at this; simp at this; omega
   refine ⟨m, ev_now (fun k => ?_), .inl rfl, by omega, by simp⟩
   simp only [binderyref09_Longest.l0]
   rw [if_neg (by omega)]
  | cons n t ih =>
   intro i m hd hi h0 h1
   obtain ⟨h2, h3, h4⟩ := nat_ne9 hd
   have hn := hx n (by rw [← h3, List.getD_eq_getElem?_getD, List.getElem?_eq_getElem h2]; exact List.getElem_mem _)
   have hmx : mx m n = if m < n then n else m := rfl
   obtain ⟨r, e1, e2, e3, e4⟩ := ih (i + 1) (mx m n) h4 (by omega) (by rw [hmx]; split <;> omega) (by rw [hmx]; split <;> omega)
   refine ⟨r, ev_step e1 (fun k => ?_), ?_, by rw [hmx] at e3; split at e3 <;> omega, fun x hx2 => ?_⟩
   ·simp only [binderyref09_Longest.l0]
    rw [if_pos (by omega), if_pos (by omega), rd_nat, h3, w64 (by omega) (by omega)]; rfl
   ·rcases e2 with e2 | e2
    ·rw [hmx] at e2
     split at e2
     ·exact .inr (by rw [e2]; exact List.mem_cons_self ..)
     ·exact .inl e2
    ·exact .inr (List.mem_cons_of_mem _ e2)
   ·rcases List.mem_cons.1 hx2 with rfl | hx2
    ·rw [hmx] at e3; split at e3 <;> omega
    ·exact e4 x hx2
 obtain ⟨r, e1, e2, e3, e4⟩ := key l 0 0 rfl (by omega) (by omega) (by omega)
 have h16 : 0 ≤ lgA l 16 ∧ lgA l 16 ≤ 15 := lgA_le l 15
 have hle : r ≤ lgA l 16 := by
  rcases e2 with e2 | e2
  ·omega
  ·have hr := hx r e2
   by_cases hr0 : r = 0
   ·omega
   ·obtain ⟨m, rfl⟩ := Int.eq_ofNat_of_zero_le hr.1
    exact lgA_ge l 15 m (by omega) (by omega) e2
 have hge : lgA l 16 ≤ r := by
  rcases lgA_in l 15 with h5 | h5
  ·rw [h5]; omega
  ·exact e4 _ h5
 rw [show lgA l 16 = r by omega]
 exact e1
def findN (l cs : List Int) (n : Nat) (c : Int) : Nat → Nat → Int
 | 0, _ => -1
 | d + 1, i => if l.getD i 0 = (n : Int) ∧ cs.getD i 0 = c then i else findN l cs n c d (i + 1)
theorem findN_spec (l : List Int) (n : Nat) (c : Int) : ∀ d i, i + d = l.length → (∃ j, i ≤ j ∧ IsSym l n c j ∧ findN l (codesF l) n c d i = (j : Int)) ∨ ((∀ j, i ≤ j → ¬ IsSym l n c j) ∧ findN l (codesF l) n c d i = -1)
 | 0, i, h => .inr ⟨fun j hj hs => by have := hs.1; omega, rfl⟩
 | d + 1, i, h => by
  rw [findN]
  by_cases hi : l.getD i 0 = (n : Int) ∧ (codesF l).getD i 0 = c
  ·rw [if_pos hi]
   exact .inl ⟨i, Nat.le_refl _, ⟨by omega, hi.1, hi.2⟩, rfl⟩
  ·rw [if_neg hi]
   rcases findN_spec l n c d (i + 1) (by omega) with ⟨j, h1, h2, h3⟩ | ⟨h1, h2⟩
   ·exact .inl ⟨j, by omega, h2, h3⟩
   ·refine .inr ⟨fun j hj hs => ?_, h2⟩
    by_cases he : j = i
    ·subst he; exact hi hs.2
    ·exact h1 j (by omega) hs
def lookF (l : List Int) (n : Nat) (c : Int) : Int := findN l (codesF l) n c l.length 0
theorem lookF_finds (l : List Int) : Finds l (lookF l) := fun n c _ _ => by
 rcases findN_spec l n c l.length 0 (by omega) with ⟨j, _, h2, h3⟩ | ⟨h1, h2⟩
 ·exact .inl ⟨j, h2, h3⟩
 ·exact .inr ⟨fun j => h1 j (by omega), by unfold lookF; omega⟩
theorem find_l0 {l : List Int} (h : mayF l = 0) (n : Nat) (h0 : 0 < n) (c : Int) : ∀ d i, i + d = l.length → Ev (fun k => binderyref09_Find.l0 k l (codesF l) n c i) (findN l (codesF l) n c d i)
 | 0, i, hd => by
  have hl := codesF_length h
  refine ev_step (ev_now (g := fun k => binderyref09_Find.j1 k l (codesF l) n c i false) (fun k => ?_)) (fun k => ?_)
  ·simp only [binderyref09_Find.j1]; rw [if_neg (by decide)]; rfl
  ·simp only [binderyref09_Find.l0]
   rw [if_neg (by omega)]
 | d + 1, i, hd => by
  have hl := codesF_length h
  have hlen := (may_zero h).1
  have ih := find_l0 h n h0 c d (i + 1) (by omega)
  refine ev_step (f := fun k => binderyref09_Find.j1 k l (codesF l) n c i true) ?_ (fun k => ?_)
  ·rw [findN]
   by_cases h1 : l.getD i 0 = (n : Int)
   ·by_cases h2 : (codesF l).getD i 0 = c
    ·rw [if_pos ⟨h1, h2⟩]
     refine ev_now (fun k => ?_)
     simp only [binderyref09_Find.j1]
     rw [if_pos trivial, if_pos (by omega), if_pos (by omega), rd_nat, if_pos h1, if_pos (by omega), rd_nat, if_pos h2, if_pos (by omega)]
    ·rw [if_neg (fun hh => h2 hh.2)]
     refine ev_step ih (fun k => ?_)
     simp only [binderyref09_Find.j1]
     rw [if_pos trivial, if_pos (by omega), if_pos (by omega), rd_nat, if_pos h1, if_pos (by omega), rd_nat, if_neg h2, w64 (by omega) (by omega)]; rfl
   ·rw [if_neg (fun hh => h1 hh.1)]
    refine ev_step ih (fun k => ?_)
    simp only [binderyref09_Find.j1]
    rw [if_pos trivial, if_pos (by omega), if_pos (by omega), rd_nat, if_neg h1, w64 (by omega) (by omega)]; rfl
  ·simp only [binderyref09_Find.l0]
   rw [if_pos (by omega), decide_eq_true (by omega)]
theorem find_ev {l : List Int} (h : mayF l = 0) (n : Nat) (h0 : 0 < n) (c : Int) : Ev (fun k => binderyref09_Find.f k l (codesF l) n c) (lookF l n c) := find_l0 h n h0 c l.length 0 (by omega)
theorem val_one (s : ByteArray) (p : Nat) : val s p 1 = bitA s p := by simp [val]
theorem read_l0 {l : List Int} (h : mayF l = 0) (s : ByteArray) (hs : s.size ≤ 1000000) (lg : Nat) (hlg : lg ≤ 15) : ∀ (d n : Nat) (code : Int) (p : Nat), n + d = 17 → 1 ≤ n → 0 ≤ code → code + 1 ≤ 2 ^ n → p ≤ 8 * s.size →
  Ev (fun k => binderyref09_Read.l0 k l (codesF l) (flat (bytesOf s)) p code lg n) ((lookT (lookF l) s lg d n code p).1, ((lookT (lookF l) s lg d n code p).2.2 : Int), (lookT (lookF l) s lg d n code p).2.1)
 | 0, n, code, p, hd, h1, h2, h3, h4 => by
  refine ev_now (fun k => ?_)
  simp only [binderyref09_Read.l0]
  rw [if_neg (by omega), lookT]
 | d + 1, n, code, p, hd, h1, h2, h3, h4 => by
  have hfl : (flat (bytesOf s)).length = 8 * s.size := by rw [flat_length, bytesOf_length]
  rw [lookT]
  by_cases hn : n ≤ lg
  ·rw [if_pos hn]
   have hp2 := pow_le2 (show n ≤ 15 by omega)
   by_cases hp : p + 1 ≤ 8 * s.size
   ·rw [if_pos hp]
    have hb := val_range s p 1
    have hbv : rd (flat (bytesOf s)) (p : Int) = val s p 1 := by rw [rd_nat, val_one, bitA_flat s p (by omega)]
    generalize val s p 1 = b at hb hbv ⊢
    have hb2 : b < 2 := by simpa using hb.2
    have hb1 := hb.1
    have hF := find_ev h n (by omega) (2 * code + b)
    have e : ∀ k, binderyref09_Read.l0 (k + 1) l (codesF l) (flat (bytesOf s)) p code lg n = ((binderyref09_Find.f k l (codesF l) n (2 * code + b)).bind fun t => if t ≥ 0 then some (t, ((p + 1 : Nat) : Int), 0) else binderyref09_Read.l0 k l (codesF l) (flat (bytesOf s)) ((p + 1 : Nat) : Int) (2 * code + b) lg ((n + 1 : Nat) : Int)) := fun k => by
     simp only [binderyref09_Read.l0]
     rw [if_pos (by omega), if_neg (by omega), if_pos (by omega), if_pos (by omega), hbv, w64 (x := 2 * code) (by omega) (by omega), w64 (x := 2 * code + b) (by omega) (by omega), w64 (x := (p : Int) + 1) (by omega) (by omega), w64 (x := (n : Int) + 1) (by omega) (by omega)]
     rfl
    refine ev_step ?_ e
    refine Ev.bind hF ?_
    by_cases ht : 0 ≤ lookF l n (2 * code + b)
    ·rw [if_pos ht]
     exact Ev.congr (fun k => by rw [if_pos (by omega)]) (Ev.now _)
    ·rw [if_neg ht]
     refine Ev.congr (fun k => by rw [if_neg (by omega)]) (read_l0 h s hs lg hlg d (n + 1) (2 * code + b) (p + 1) (by omega) (by omega) (by omega) (by rw [Int.pow_succ]; omega) (by omega))
   ·rw [if_neg hp]
    refine ev_now (fun k => ?_)
    simp only [binderyref09_Read.l0]
    rw [if_pos (by omega), if_pos (by omega)]
  ·rw [if_neg hn]
   refine ev_now (fun k => ?_)
   simp only [binderyref09_Read.l0]
   rw [if_neg (by omega)]
theorem refread_ev {l : List Int} (h : mayF l = 0) (s : ByteArray) (hs : s.size ≤ 1000000) (lg : Nat) (hlg : lgA l 16 = (lg : Int)) (p : Nat) (hp : p ≤ 8 * s.size) {r : Int × Int × Nat} (hr : rdT s (cntL l) (symA l 16) lg 16 1 0 0 0 p = r) :
  Ev (fun k => binderyref09_Read.f k l (codesF l) (flat (bytesOf s)) p) (r.1, (r.2.2 : Int), r.2.1) := by
 have h15 : lgA l 16 ≤ 15 := (lgA_le l 15).2
 rw [rd_look0 h (lookF_finds l) s lg (by omega) p] at hr
 have h1 := read_l0 h s hs lg (by omega) 16 1 0 p rfl (by omega) (by omega) (by decide) hp
 rw [hr] at h1
 unfold binderyref09_Read.f
 refine Ev.bind (longest_ev h) ?_
 rw [hlg]
 exact h1
theorem bits_ev (s : ByteArray) (hs : s.size ≤ 1000000) : Ev (fun k => binderyref09_Bits.f k s) (flat (bytesOf s)) := by
 have key : ∀ (t : List Int) (i : Nat) (out : List Int), (bytesOf s).drop i = t → i ≤ s.size → out.length ≤ 8 * i → Ev (fun k => binderyref09_Bits.l0 k s out i) (out ++ flat t) := by
  intro t
  induction t with
  | nil =>
   intro i out hd hi ho
   have h2 : s.size ≤ i := by have := congrArg List.length hd; rw [List.length_drop, bytesOf_length] at this; simp at this; omega
   refine ev_now (fun k => ?_)
   simp only [binderyref09_Bits.l0]
   rw [if_neg (by omega)]
   simp [flat]
  | cons b t ih =>
   intro i out hd hi ho
   obtain ⟨h2, h3, h4⟩ := nat_ne9 hd
   rw [bytesOf_length] at h2
   have hb : bt s (i : Int) = b := by rw [← rd_bytesOf, rd_nat, h3]
   have hbr := bt_range s (i : Int)
   rw [hb] at hbr
   have l1 : ∀ (e j : Nat) (o : List Int) (q : Int), j + e = 8 → 0 ≤ q → q < 256 → o.length ≤ 8 * i + j → Ev (fun k => binderyref09_Bits.l1 k s o i q j) (o ++ bitsN q e ++ flat t) := by
    intro e
    induction e with
    | zero =>
     intro j o q hj h0 h1 hol
     rw [bitsN, List.append_nil]
     refine ev_step (ih (i + 1) o h4 (by omega) (by omega)) (fun k => ?_)
     simp only [binderyref09_Bits.l1]
     rw [if_neg (by omega), w64 (by omega) (by omega)]
     rfl
    | succ e ih2 =>
     intro j o q hj h0 h1 hol
     have h5 := ih2 (j + 1) (o ++ [q % 2]) (q / 2) (by omega) (by omega) (by omega) (by rw [List.length_append, List.length_singleton]; omega)
     rw [List.append_assoc o, List.singleton_append] at h5
     refine ev_step h5 (fun k => ?_)
     simp only [binderyref09_Bits.l1]
     rw [if_pos (by omega), if_pos (by omega), tm _ h0, td _ h0, w64 (by omega) (by omega), w64 (by omega) (by omega)]
     rfl
   have h6 := l1 8 0 out b rfl hbr.1 (by omega) (by omega)
   rw [flat_cons, ← List.append_assoc]
   refine ev_step h6 (fun k => ?_)
   simp only [binderyref09_Bits.l0]
   rw [if_pos (by omega), if_pos (by omega), hb, w64 (by omega) (by omega)]
   rfl
 have h := key (bytesOf s) 0 [] rfl (by omega) (by simp)
 exact h
end Go.Proofs.YtbgdadehjnifeaaGreat.Hand
