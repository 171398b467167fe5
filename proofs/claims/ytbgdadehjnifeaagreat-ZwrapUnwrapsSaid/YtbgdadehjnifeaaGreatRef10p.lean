/- The document's inflate in plain numbers is the program's. -/
import Derived.Test.YtbgdadehjnifeaaGreatRef10h
namespace Go.Proofs.YtbgdadehjnifeaaGreat.Hand
open Go.RowKit Go.Proofs.YtbgdadehjnifeaaGreatW.PrintWords Go.Proofs.YtbgdadehjnifeaaGreatW.PrintLast Go.Proofs.YtbgdadehjnifeaaGreatW.PrintMore Go.Proofs.YtbgdadehjnifeaaGreat.Num Go.Proofs.YtbgdadehjnifeaaGreat.Bits
set_option linter.unusedVariables false
set_option linter.unusedSimpArgs false
def Says (g : Res Unit) (r : Nat × List Int × Int) : Prop := match g with
 | .ok _ p o => r = (p, o, 0)
 | .bad e => r.2.2 = e ∧ e ≠ 0
theorem n3 : (3 : Int) ≠ 0 := by decide
theorem n4 : (4 : Int) ≠ 0 := by decide
theorem n5 : (5 : Int) ≠ 0 := by decide
theorem n7 : (7 : Int) ≠ 0 := by decide
theorem z0 : ¬ ((0 : Int) ≠ 0) := fun h => h rfl
theorem rfail_ne {c : Int} (h : c ≠ 0) (b : Bool) (e : Int) : rfail c b e = c := if_neg (fun hh => h hh.2)
theorem rfail_t (e : Int) : rfail 0 true e = e := if_pos ⟨rfl, rfl⟩
theorem rfail_f (c e : Int) : rfail c false e = c := if_neg (fun hh => by cases hh.1)
theorem rbits_ne {c : Int} (h : c ≠ 0) (s : ByteArray) (p w : Nat) : rbits s p c w = (p, c, 0) := if_neg h
theorem rsym_ne {c : Int} (h : c ≠ 0) (s : ByteArray) (p : Nat) (l : List Int) : rsym s p c l = (p, c, 0) := if_neg h
theorem rb_ok {s : ByteArray} {p w : Nat} (h : p + w ≤ 8 * s.size) : rbits s p 0 w = (p + w, 0, val s p w) := by unfold rbits; rw [if_pos rfl, if_pos h]
theorem rb_bad {s : ByteArray} {p w : Nat} (h : ¬ p + w ≤ 8 * s.size) : rbits s p 0 w = (p, 5, 0) := by unfold rbits; rw [if_pos rfl, if_neg h]
theorem rs_all (s : ByteArray) (p : Nat) (l : List Int) : rsym s p 0 l = ((rdS s l p).2.2, (rdS s l p).2.1, (rdS s l p).1) := if_pos rfl
theorem rs_ok {s : ByteArray} {p : Nat} {l : List Int} (h : (rdS s l p).2.1 = 0) : rsym s p 0 l = ((rdS s l p).2.2, 0, (rdS s l p).1) := by rw [rs_all, h]
theorem Says.then_ {f : RM Unit} {g : Unit → RM Unit} {s : ByteArray} {m : Int} {p : Nat} {o : List Int} {r : Nat × List Int × Int} (R : Nat → List Int → Nat × List Int × Int) (h : Says (f s m p o) r) (k : ∀ q o', Says (g () s m q o') (R q o')) :
  Says ((f.bind g) s m p o) (if r.2.2 = 0 then R r.1 r.2.1 else r) := by
 cases hf : f s m p o with
 | bad e =>
  rw [hf] at h
  rw [bind_bad hf, if_neg (by rw [h.1]; exact h.2)]
  exact h
 | ok u q o' =>
  rw [hf] at h
  have h' : r = (q, o', 0) := h
  subst h'
  rw [bind_ok hf, if_pos rfl]
  exact k q o'
theorem says_copied (s : ByteArray) (m : Int) (p : Nat) (o : List Int) (k : Nat) (dist : List Int) (hk : k < 29) : Says (repeatM k dist s m p o) (rcopied s m p o k dist) := by
 have hl := lens_small k hk
 unfold repeatM rcopied
 dsimp only
 obtain ⟨⟨a, b⟩, hab⟩ : ∃ t, t = lensT.getD k (0, 0) := ⟨_, rfl⟩
 rw [← hab] at hl ⊢
 dsimp only at hl ⊢
 clear hab
 by_cases h1 : p + b ≤ 8 * s.size
 ·rw [bind_ok (told_ok h1), rb_ok h1]
  dsimp only
  by_cases h2 : (rdS s dist (p + b)).2.1 = 0
  ·rw [bind_ok (sym_ok h2), rs_ok h2]
   dsimp only
   generalize rdS s dist (p + b) = R
   by_cases h3 : 30 ≤ R.1
   ·rw [if_pos h3, decide_eq_true (show 29 < R.1 by omega), rfail_t, if_pos n4]
    exact ⟨rfl, by decide⟩
   ·rw [if_neg h3, decide_eq_false (show ¬ 29 < R.1 by omega), rfail_f, if_neg z0]
    obtain ⟨⟨a2, b2⟩, hab⟩ : ∃ t, t = distT.getD R.1.toNat (0, 0) := ⟨_, rfl⟩
    rw [← hab]
    dsimp only
    by_cases h4 : R.2.2 + b2 ≤ 8 * s.size
    ·rw [bind_ok (told_ok h4), rb_ok h4, bind_ok (show lookM s m (R.2.2 + b2) o = .ok o (R.2.2 + b2) o from rfl)]
     dsimp only
     have hv := (val_range s p b).1
     by_cases h5 : (o.length : Int) < a2 + val s R.2.2 b2
     ·rw [if_pos h5, decide_eq_true h5, rfail_t, rfail_ne n3, if_neg n3]
      exact ⟨rfl, by decide⟩
     ·rw [if_neg h5, decide_eq_false h5, rfail_f]
      unfold outM
      rw [copyL_length, Int.toNat_of_nonneg (by omega)]
      by_cases h6 : m < (o.length : Int) + (a + val s p b)
      ·rw [if_pos (show m - (o.length : Int) < a + val s p b by omega), decide_eq_true h6, rfail_t, if_neg n7]
       exact ⟨rfl, by decide⟩
      ·rw [if_neg (show ¬ m - (o.length : Int) < a + val s p b by omega), decide_eq_false h6, rfail_f, if_pos rfl]
       exact rfl
    ·rw [bind_bad (told_bad h4), rb_bad h4]
     dsimp only
     rw [rfail_ne n5, rfail_ne n5, if_neg n5]
     exact ⟨rfl, by decide⟩
  ·rw [bind_bad (sym_bad h2), rs_all]
   dsimp only
   rw [rfail_ne h2, if_pos h2]
   exact ⟨rfl, h2⟩
 ·rw [bind_bad (told_bad h1), rb_bad h1]
  dsimp only
  rw [rsym_ne n5]
  dsimp only
  rw [rfail_ne n5, if_pos n5]
  exact ⟨rfl, by decide⟩
theorem says_coded (s : ByteArray) (m : Int) (near far : List Int) : ∀ (k p : Nat) (o : List Int), Says (codedM near far k s m p o) (rcoded s m near far k p o)
 | 0, p, o => ⟨rfl, by decide⟩
 | k + 1, p, o => by
  rw [codedM, rcoded]
  dsimp only
  by_cases h2 : (rdS s near p).2.1 = 0
  ·rw [bind_ok (sym_ok h2), rs_ok h2]
   dsimp only
   generalize rdS s near p = R
   by_cases h3 : R.1 = 256
   ·rw [if_pos h3, decide_eq_false (show ¬ 285 < R.1 by omega), rfail_f, if_neg z0, if_pos h3]
    exact rfl
   ·rw [if_neg h3]
    by_cases h4 : 286 ≤ R.1
    ·rw [if_pos h4, decide_eq_true (show 285 < R.1 by omega), rfail_t, if_pos n4]
     exact ⟨rfl, by decide⟩
    ·rw [if_neg h4, decide_eq_false (show ¬ 285 < R.1 by omega), rfail_f, if_neg z0, if_neg h3]
     by_cases h5 : 256 < R.1
     ·rw [if_pos h5, if_neg (show ¬ R.1 < 256 by omega)]
      exact Says.then_ (fun q o' => rcoded s m near far k q o') (says_copied s m R.2.2 o (R.1 - 257).toNat far (by omega)) (fun q o' => says_coded s m near far k q o')
     ·rw [if_neg h5, if_pos (show R.1 < 256 by omega)]
      have hlen : (((o ++ [R.1 % 256]).length : Nat) : Int) = (o.length : Int) + 1 := by rw [List.length_append]; rfl
      by_cases h6 : m < ((o ++ [R.1 % 256]).length : Int)
      ·rw [decide_eq_true h6, rfail_t, if_neg n7, bind_bad (c := 7) (by unfold outM; exact if_pos (by show _ < ((1 : Nat) : Int); omega))]
       exact ⟨rfl, by decide⟩
      ·rw [decide_eq_false h6, rfail_f, if_pos rfl, bind_ok (a := ()) (q := R.2.2) (o' := o ++ [R.1 % 256]) (by unfold outM; exact if_neg (by show ¬ _ < ((1 : Nat) : Int); omega))]
       exact says_coded s m near far k R.2.2 _
  ·rw [bind_bad (sym_bad h2), rs_all]
   dsimp only
   rw [rfail_ne h2, if_pos h2]
   exact ⟨rfl, h2⟩
theorem says_stored (s : ByteArray) (m : Int) (p : Nat) (o : List Int) : Says (storedM s m p o) (rstored s m p o) := by
 unfold storedM rstored
 dsimp only
 rw [bind_ok (show alignM s m p o = .ok () (8 * rdAt p) o from rfl)]
 generalize 8 * rdAt p = p0
 by_cases h1 : p0 + 16 ≤ 8 * s.size
 ·rw [bind_ok (get_ok h1), rb_ok h1]
  dsimp only
  by_cases h2 : p0 + 16 + 16 ≤ 8 * s.size
  ·rw [bind_ok (get_ok h2), rb_ok h2]
   dsimp only
   by_cases h3 : val s p0 16 + val s (p0 + 16) 16 ≠ 65535
   ·rw [if_pos h3, show (val s p0 16 + val s (p0 + 16) 16 != 65535) = true from bne_iff_ne.2 h3, rfail_t, if_pos n4]
    exact ⟨rfl, by decide⟩
   ·rw [if_neg h3, show (val s p0 16 + val s (p0 + 16) 16 != 65535) = false from by rw [bne_eq_false_iff_eq]; omega, rfail_f, if_neg z0]
    unfold rbytes
    by_cases h4 : rdAt (p0 + 16 + 16) + (val s p0 16).toNat ≤ s.size
    ·rw [if_pos h4, bind_ok (show bytesM (val s p0 16).toNat s m (p0 + 16 + 16) o = .ok _ _ o from if_pos h4)]
     dsimp only
     have hlen : (((o ++ bytesOf (s.extract (rdAt (p0 + 16 + 16)) (rdAt (p0 + 16 + 16) + (val s p0 16).toNat))).length : Nat) : Int) = (o.length : Int) + ((bytesOf (s.extract (rdAt (p0 + 16 + 16)) (rdAt (p0 + 16 + 16) + (val s p0 16).toNat))).length : Int) := by rw [List.length_append]; omega
     generalize bytesOf (s.extract (rdAt (p0 + 16 + 16)) (rdAt (p0 + 16 + 16) + (val s p0 16).toNat)) = xs at hlen ⊢
     unfold outM
     by_cases h6 : m < ((o ++ xs).length : Int)
     ·rw [if_pos (show m - (o.length : Int) < (xs.length : Int) by omega), decide_eq_true h6, rfail_t]
      exact ⟨rfl, by decide⟩
     ·rw [if_neg (show ¬ m - (o.length : Int) < (xs.length : Int) by omega), decide_eq_false h6, rfail_f]
      exact rfl
    ·rw [if_neg h4, bind_bad (show bytesM (val s p0 16).toNat s m (p0 + 16 + 16) o = .bad 5 from if_neg h4)]
     dsimp only
     rw [rfail_ne n5]
     exact ⟨rfl, n5⟩
  ·rw [bind_bad (get_bad h2), rb_bad h2]
   dsimp only
   rw [rfail_ne n5, if_pos n5]
   exact ⟨rfl, by decide⟩
 ·rw [bind_bad (get_bad h1), rb_bad h1]
  dsimp only
  rw [rbits_ne n5]
  dsimp only
  rw [rfail_ne n5, if_pos n5]
  exact ⟨rfl, by decide⟩
def SaysL (g : Res (List Int)) (o : List Int) (r : Nat × Int × List Int) : Prop := match g with
 | .ok l p o' => r = (p, 0, l) ∧ o' = o
 | .bad e => r.2.1 = e ∧ e ≠ 0
theorem rheadsL_ne (s : ByteArray) (many : Nat) {c : Int} (hc : c ≠ 0) : ∀ (j i p : Nat) (l : List Int), (rheadsL s many j i p c l).2.1 = c
 | 0, _, _, _ => rfl
 | j + 1, i, p, l => by
  rw [rheadsL]
  dsimp only
  split
  ·rw [rbits_ne hc]; exact rheadsL_ne s many hc j _ _ _
  ·rfl
theorem rheadsL_len (s : ByteArray) (many : Nat) : ∀ (j i p : Nat) (c : Int) (l : List Int), (rheadsL s many j i p c l).2.2.length = l.length
 | 0, _, _, _, _ => rfl
 | j + 1, i, p, c, l => by
  rw [rheadsL]
  dsimp only
  split
  ·rw [rheadsL_len s many j, List.length_set]
  ·rfl
theorem says_headsL (s : ByteArray) (m : Int) (o : List Int) (many : Nat) : ∀ (j i p : Nat) (l : List Int), SaysL (headsL many j i l s m p o) o (rheadsL s many j i p 0 l)
 | 0, _, _, _ => ⟨rfl, rfl⟩
 | j + 1, i, p, l => by
  rw [headsL, rheadsL]
  dsimp only
  by_cases h : i < many
  ·rw [if_pos h, if_pos h]
   by_cases h1 : p + 3 ≤ 8 * s.size
   ·rw [bind_ok (get_ok h1), rb_ok h1]
    exact says_headsL s m o many j (i + 1) (p + 3) _
   ·rw [bind_bad (get_bad h1), rb_bad h1]
    exact ⟨rheadsL_ne s many n5 j _ _ _, n5⟩
  ·rw [if_neg h, if_neg h]
   exact ⟨rfl, rfl⟩
theorem row_end (s : ByteArray) (m : Int) (o l : List Int) (many k : Nat) (row : List Int) (q : Nat) (a what : Int) (b : Nat) (ih : ∀ p row, p ≤ 8 * s.size → SaysL (rowM l many k row s m p o) o (rrowL s l many k p row)) :
  SaysL (((toldM (a, b)).bind fun times => if (many : Int) - row.length < times then RM.err 4 else rowM l many k (row ++ List.replicate times.toNat what)) s m q o) o
   (if rfail (rbits s q 0 b).2.1 (decide ((many : Int) < (row.length : Int) + ((rbits s q 0 b).2.2 + a))) 4 = 0 then rrowL s l many k (rbits s q 0 b).1 (row ++ List.replicate ((rbits s q 0 b).2.2 + a).toNat what) else ((rbits s q 0 b).1, rfail (rbits s q 0 b).2.1 (decide ((many : Int) < (row.length : Int) + ((rbits s q 0 b).2.2 + a))) 4, row)) := by
 by_cases h : q + b ≤ 8 * s.size
 ·rw [bind_ok (told_ok h), rb_ok h]
  dsimp only
  by_cases h1 : (many : Int) < (row.length : Int) + (val s q b + a)
  ·rw [if_pos (show (many : Int) - (row.length : Int) < a + val s q b by omega), decide_eq_true h1, rfail_t, if_neg n4]
   exact ⟨rfl, by decide⟩
  ·rw [if_neg (show ¬ (many : Int) - (row.length : Int) < a + val s q b by omega), decide_eq_false h1, rfail_f, if_pos rfl, Int.add_comm a]
   exact ih _ _ h
 ·rw [bind_bad (told_bad h), rb_bad h]
  dsimp only
  rw [rfail_ne n5, if_neg n5]
  exact ⟨rfl, n5⟩
theorem rsw16 {s : ByteArray} {row : List Int} {q : Nat} {c n : Int} (h : n = 16) : rsw s row q c n = ((rbits s q (rfail c (decide (row.length = 0)) 4) 2).1, (rbits s q (rfail c (decide (row.length = 0)) 4) 2).2.1, (rbits s q (rfail c (decide (row.length = 0)) 4) 2).2.2 + 3, if row.length = 0 then n else row.getD (row.length - 1) 0) := if_pos h
theorem rsw17 {s : ByteArray} {row : List Int} {q : Nat} {c n : Int} (h : n = 17) : rsw s row q c n = ((rbits s q c 3).1, (rbits s q c 3).2.1, (rbits s q c 3).2.2 + 3, 0) := (if_neg (show ¬ n = 16 by omega)).trans (if_pos h)
theorem rsw18 {s : ByteArray} {row : List Int} {q : Nat} {c n : Int} (h : n = 18) : rsw s row q c n = ((rbits s q c 7).1, (rbits s q c 7).2.1, (rbits s q c 7).2.2 + 11, 0) := (if_neg (show ¬ n = 16 by omega)).trans ((if_neg (show ¬ n = 17 by omega)).trans (if_pos h))
theorem rsw0 {s : ByteArray} {row : List Int} {q : Nat} {c n : Int} (h : ¬ n = 16) (h7 : ¬ n = 17) (h8 : ¬ n = 18) : rsw s row q c n = (q, c, 1, n) := (if_neg h).trans ((if_neg h7).trans (if_neg h8))
theorem rsw_bad {s : ByteArray} {row : List Int} {q : Nat} {c n : Int} (h : c ≠ 0) : (rsw s row q c n).2.1 = c := by
 by_cases h6 : n = 16
 ·rw [rsw16 h6, rfail_ne h, rbits_ne h]
 ·by_cases h7 : n = 17
  ·rw [rsw17 h7, rbits_ne h]
  ·by_cases h8 : n = 18
   ·rw [rsw18 h8, rbits_ne h]
   ·rw [rsw0 h6 h7 h8]
theorem says_rowL (s : ByteArray) (m : Int) (o l : List Int) (many : Nat) : ∀ (k p : Nat) (row : List Int), p ≤ 8 * s.size → SaysL (rowM l many k row s m p o) o (rrowL s l many k p row)
 | 0, _, _, _ => ⟨rfl, by decide⟩
 | k + 1, p, row, hp => by
  rw [rowM, rrowL]
  by_cases hlt : row.length < many
  ·rw [if_pos hlt, if_pos hlt]
   dsimp only
   by_cases h2 : (rdS s l p).2.1 = 0
   ·have hq := rdS_le s l p hp
    rw [bind_ok (sym_ok h2), rs_ok h2]
    dsimp only
    generalize rdS s l p = R at hq ⊢
    have fin := fun (a what : Int) (b : Nat) => row_end s m o l many k row R.2.2 a what b (fun p row hp => says_rowL s m o l many k p row hp)
    by_cases h16 : R.1 = 16
    ·rw [rsw16 h16]
     dsimp only
     by_cases hr : row = []
     ·subst hr
      rw [if_pos ⟨h16, rfl⟩, show decide (([] : List Int).length = 0) = true from rfl, rfail_t, rbits_ne n4]
      dsimp only
      rw [rfail_ne n4, if_neg n4]
      exact ⟨rfl, n4⟩
     ·have hr0 : ¬ row.length = 0 := fun h => hr (List.eq_nil_of_length_eq_zero h)
      rw [if_neg (fun h => hr h.2), if_pos h16, if_pos h16, decide_eq_false hr0, rfail_f, if_neg hr0]
      exact fin 3 _ 2
    ·rw [if_neg (fun h => h16 h.1), if_neg h16, if_neg h16]
     by_cases h17 : R.1 = 17
     ·rw [if_pos h17, if_pos (.inl h17), rsw17 h17]
      exact fin 3 0 3
     ·rw [if_neg h17]
      by_cases h18 : R.1 = 18
      ·rw [if_pos h18, if_pos (.inr h18), rsw18 h18]
       exact fin 11 0 7
      ·rw [if_neg h18, if_neg (show ¬ (R.1 = 17 ∨ R.1 = 18) by omega), rsw0 h16 h17 h18]
       have hf := fin 1 R.1 0
       rw [rb_ok (show R.2.2 + 0 ≤ 8 * s.size by omega)] at hf
       exact hf
   ·rw [bind_bad (sym_bad h2), rs_all]
    dsimp only
    rw [rsw_bad h2, rfail_ne h2, if_neg h2]
    exact ⟨rfl, h2⟩
  ·rw [if_neg hlt, if_neg hlt]
   exact ⟨rfl, rfl⟩
theorem sumL_le0 : ∀ l : List Int, (∀ x ∈ l, x ≤ 0) → sumL l ≤ 0
 | [], _ => by simp [sumL]
 | x :: t, h => by
  have h1 := h x (List.mem_cons_self ..)
  have h2 := sumL_le0 t (fun y hy => h y (List.mem_cons_of_mem _ hy))
  rw [sumL]; omega
theorem far_reach {l : List Int} (hx : ∀ x ∈ l, 0 ≤ x) (hl : l.length ≤ 320) : farB l = reachB l := by
 unfold farB reachB
 by_cases hc : chkF l = 0
 ·rw [hc]; simp
 ·by_cases hs : sumL l < 2
  ·have h0 := sumL_nonneg l hx
   obtain ⟨h1, h2⟩ := kraft_sum l hx
   have h3 : l.all (fun n => decide (0 ≤ n ∧ n ≤ 15)) = true := List.all_eq_true.2 (fun x hxm => by
    have a := hx x hxm
    have b := h2 x hxm
    simp; omega)
   have he := chk_eq l
   rw [if_neg (by omega), if_pos h3] at he
   by_cases hk : kraft l = 0
   ·rw [if_pos hk] at he; rw [he, decide_eq_true hs]; rfl
   ·have := kraft_nonneg l
    rw [if_neg hk, if_neg (by omega), if_pos (by omega)] at he
    rw [he, decide_eq_true hs, decide_eq_true (show sumL l = 1 by omega)]; rfl
  ·rw [decide_eq_false hs, decide_eq_false hc, decide_eq_false (show ¬ sumL l = 1 by omega)]
   have : ¬ chkF l = 12 := fun h12 => by
    have he := chk_eq l
    rw [if_neg (by omega), h12] at he
    split at he
    ·split at he
     ·rename_i hk
      have := sumL_le0 l (kraft_zero l hk)
      omega
     ·split at he
      ·cases he
      ·split at he <;> cases he
    ·cases he
   rw [decide_eq_false this]; simp
theorem says_own (s : ByteArray) (m : Int) (p : Nat) (o : List Int) : Says (ownM s m p o) (rown s m p o) := by
 unfold ownM rown
 dsimp only
 by_cases h1 : p + 5 ≤ 8 * s.size
 ·rw [bind_ok (get_ok h1), rb_ok h1]
  dsimp only
  by_cases h2 : p + 5 + 5 ≤ 8 * s.size
  ·rw [bind_ok (get_ok h2), rb_ok h2]
   dsimp only
   by_cases h3 : p + 5 + 5 + 4 ≤ 8 * s.size
   ·rw [bind_ok (get_ok h3), rb_ok h3]
    dsimp only
    generalize val s p 5 = a
    generalize val s (p + 5) 5 = b
    generalize val s (p + 5 + 5) 4 = c
    generalize p + 5 + 5 + 4 = p3 at h3 ⊢
    by_cases h4 : 29 < a ∨ 29 < b
    ·rw [if_pos h4, decide_eq_true h4, rfail_t, if_pos n4]
     exact ⟨rfl, by decide⟩
    ·rw [if_neg h4, decide_eq_false h4, rfail_f, if_neg z0]
     have hh := says_headsL s m o (c.toNat + 4) 19 0 p3 (List.replicate 19 0)
     have hhp := rheadsL_p s (c.toNat + 4) 19 0 p3 0 (List.replicate 19 0) h3
     have hhl := rheadsL_len s (c.toNat + 4) 19 0 p3 0 (List.replicate 19 0)
     unfold rheads
     generalize rheadsL s (c.toNat + 4) 19 0 p3 0 (List.replicate 19 0) = H at hh hhp hhl ⊢
     cases hg : headsL (c.toNat + 4) 19 0 (List.replicate 19 0) s m p3 o with
     | bad e =>
      rw [hg] at hh
      have hne : H.2.1 ≠ 0 := by rw [hh.1]; exact hh.2
      rw [bind_bad (show headsM (c.toNat + 4) s m p3 o = .bad e by unfold headsM; exact bind_bad hg), rfail_ne hne, if_pos hne]
      exact hh
     | ok l q o' =>
      rw [hg] at hh
      obtain ⟨rfl, rfl⟩ := hh
      dsimp only at hhp hhl ⊢
      by_cases h5 : chkF l = 0
      ·rw [bind_ok (show headsM (c.toNat + 4) s m p3 o' = .ok l q o' by unfold headsM; rw [bind_ok hg, if_neg (fun h => h h5)]; rfl), h5, show ((0 : Int) != 0) = false from rfl, rfail_f, if_neg z0]
       have hr := says_rowL s m o' l (a.toNat + b.toNat + 258) 400 q [] hhp
       have hrg := rrowL_range s l (a.toNat + b.toNat + 258) (by rw [hhl]; decide) 400 q [] hhp (by simp) (by simp; omega) (by simp)
       generalize rrowL s l (a.toNat + b.toNat + 258) 400 q [] = T at hr hrg ⊢
       cases hw : rowM l (a.toNat + b.toNat + 258) 400 [] s m q o' with
       | bad e =>
        rw [hw] at hr
        have hne : T.2.1 ≠ 0 := by rw [hr.1]; exact hr.2
        rw [bind_bad hw, if_pos hne]
        exact hr
       | ok row q2 o2 =>
        rw [hw] at hr
        obtain ⟨rfl, rfl⟩ := hr
        dsimp only at hrg ⊢
        rw [bind_ok hw, if_neg z0]
        have hfr := far_reach (l := row.drop (a.toNat + 257)) (fun x hx => (hrg.2.1 x (List.mem_of_mem_drop hx)).1) (by rw [List.length_drop]; have := hrg.2.2.1; omega)
        unfold ownBad
        rw [hfr]
        by_cases h6 : chkF (row.take (a.toNat + 257)) ≠ 0 ∨ row.getD 256 0 = 0 ∨ reachB (row.drop (a.toNat + 257)) = false
        ·rw [if_pos h6, if_pos (by
          rcases h6 with h | h | h
          ·rw [show (chkF (row.take (a.toNat + 257)) != 0) = true from bne_iff_ne.2 h]; rfl
          ·rw [h]; simp
          ·rw [h]; simp)]
         exact ⟨rfl, by decide⟩
        ·rw [if_neg h6, if_neg (fun h => h6 (by
          by_cases g1 : chkF (row.take (a.toNat + 257)) = 0
          ·by_cases g2 : row.getD 256 0 = 0
           ·exact .inr (.inl g2)
           ·right; right
            rw [g1, beq_false_of_ne g2] at h
            simpa using h
          ·exact .inl g1))]
         exact says_coded s m _ _ bigK q2 o2
      ·rw [bind_bad (show headsM (c.toNat + 4) s m p3 o' = .bad 4 by unfold headsM; rw [bind_ok hg, if_pos h5]; rfl), show (chkF l != 0) = true from bne_iff_ne.2 h5, rfail_t, if_pos n4]
       exact ⟨rfl, by decide⟩
   ·rw [bind_bad (get_bad h3), rb_bad h3]
    dsimp only
    rw [rfail_ne n5, if_pos n5]
    exact ⟨rfl, by decide⟩
  ·rw [bind_bad (get_bad h2), rb_bad h2]
   dsimp only
   rw [rbits_ne n5]
   dsimp only
   rw [rfail_ne n5, if_pos n5]
   exact ⟨rfl, by decide⟩
 ·rw [bind_bad (get_bad h1), rb_bad h1]
  dsimp only
  rw [rbits_ne n5]
  dsimp only
  rw [rbits_ne n5]
  dsimp only
  rw [rfail_ne n5, if_pos n5]
  exact ⟨rfl, by decide⟩
def rkind (s : ByteArray) (m : Int) (kind : Int) (p : Nat) (o : List Int) : Nat × List Int × Int := if kind = 0 then rstored s m p o else if kind = 1 then rcoded s m fixLit fixDist bigK p o else rown s m p o
def rinfl (s : ByteArray) (m : Int) : Nat → Nat → List Int → Nat × List Int × Int
 | 0, p, o => (p, o, 99)
 | k + 1, p, o =>
  let b1 := rbits s p 0 1
  let b2 := rbits s b1.1 b1.2.1 2
  let c := rfail b2.2.1 (b2.2.2 == 3) 4
  if c ≠ 0 then (b2.1, o, c) else
   let r := rkind s m b2.2.2 b2.1 o
   if r.2.2 ≠ 0 then r else if b1.2.2 = 0 then rinfl s m k r.1 r.2.1 else r
theorem says_kind (s : ByteArray) (m : Int) (kind : Int) (hk : 0 ≤ kind ∧ kind ≤ 2) (p : Nat) (o : List Int) : Says (kindM kind s m p o) (rkind s m kind p o) := by
 unfold kindM rkind
 by_cases h0 : kind = 0
 ·rw [if_pos h0, if_pos h0]; exact says_stored s m p o
 ·rw [if_neg h0, if_neg h0]
  by_cases h1 : kind = 1
  ·rw [if_pos h1, if_pos h1]
   generalize bigK = K
   exact says_coded s m fixLit fixDist K p o
  ·rw [if_neg h1, if_neg h1, if_pos (by omega)]; exact says_own s m p o
theorem rkind_range (s : ByteArray) (m : Int) (kind : Int) (hk : 0 ≤ kind ∧ kind ≤ 2) (p : Nat) (o : List Int) (hp : p ≤ 8 * s.size) (hol : (o.length : Int) ≤ m) (h : (rkind s m kind p o).2.2 = 0) :
  p ≤ (rkind s m kind p o).1 ∧ (rkind s m kind p o).1 ≤ 8 * s.size ∧ ((rkind s m kind p o).2.1.length : Int) ≤ m := by
 have hs := says_kind s m kind hk p o
 generalize rkind s m kind p o = r at hs h ⊢
 cases hf : kindM kind s m p o with
 | bad e => rw [hf] at hs; exact absurd (hs.1.symm.trans h) hs.2
 | ok u q o' =>
  rw [hf] at hs
  have h' : r = (q, o', 0) := hs
  subst h'
  have g := (Good.kind kind).mono hp hf
  exact ⟨g.1, g.2.1, ((Good.kind kind).room m hp hf hol hol).1⟩
theorem says_infl (s : ByteArray) (m : Int) : ∀ (k p : Nat) (o : List Int), Says (infM k s m p o) (rinfl s m k p o)
 | 0, p, o => ⟨rfl, by decide⟩
 | k + 1, p, o => by
  rw [infM, rinfl]
  dsimp only
  by_cases h1 : p + 1 ≤ 8 * s.size
  ·rw [rb_ok h1]
   dsimp only
   by_cases h2 : p + 1 + 2 ≤ 8 * s.size
   ·rw [rb_ok h2]
    dsimp only
    have hv1 := val_range s p 1
    have hv := val_range s (p + 1) 2
    simp only [Int.reducePow] at hv hv1
    have hb : blockM s m p o = ((kindM (val s (p + 1) 2)).bind fun _ => RM.ret (val s p 1)) s m (p + 1 + 2) o := by
     rw [show blockM = (getM 1).bind fun last => (getM 2).bind fun kind => (kindM kind).bind fun _ => RM.ret last from rfl, bind_ok (get_ok h1), bind_ok (get_ok h2)]
    by_cases h3 : val s (p + 1) 2 = 3
    ·rw [h3] at hb
     rw [bind_bad (show blockM s m p o = .bad 4 from hb.trans (bind_bad rfl)), h3, show ((3 : Int) == 3) = true from rfl, rfail_t, if_pos n4]
     exact ⟨rfl, by decide⟩
    ·rw [show (val s (p + 1) 2 == 3) = false from beq_false_of_ne h3, rfail_f, if_neg z0]
     have hs := says_kind s m (val s (p + 1) 2) (by omega) (p + 1 + 2) o
     generalize rkind s m (val s (p + 1) 2) (p + 1 + 2) o = r at hs ⊢
     cases hf : kindM (val s (p + 1) 2) s m (p + 1 + 2) o with
     | bad e =>
      rw [hf] at hs
      rw [bind_bad (show blockM s m p o = .bad e from hb.trans (bind_bad hf)), if_pos (by rw [hs.1]; exact hs.2)]
      exact hs
     | ok u q o' =>
      rw [hf] at hs
      have h' : r = (q, o', 0) := hs
      subst h'
      rw [bind_ok (show blockM s m p o = .ok (val s p 1) q o' from hb.trans (bind_ok hf))]
      show Says _ (if (0 : Int) ≠ 0 then (q, o', 0) else if val s p 1 = 0 then rinfl s m k q o' else (q, o', 0))
      rw [if_neg z0]
      by_cases h5 : val s p 1 = 0
      ·rw [if_neg (show ¬ val s p 1 = 1 by omega), if_pos h5]
       exact says_infl s m k q o'
      ·rw [if_pos (show val s p 1 = 1 by omega), if_neg h5]
       exact rfl
   ·rw [bind_bad (show blockM s m p o = .bad 5 by unfold blockM; rw [bind_ok (get_ok h1)]; exact bind_bad (get_bad h2)), rb_bad h2]
    dsimp only
    rw [rfail_ne n5, if_pos n5]
    exact ⟨rfl, by decide⟩
  ·rw [bind_bad (show blockM s m p o = .bad 5 by unfold blockM; exact bind_bad (get_bad h1)), rb_bad h1]
   dsimp only
   rw [rbits_ne n5]
   dsimp only
   rw [rfail_ne n5, if_pos n5]
   exact ⟨rfl, by decide⟩
def rinflF (s : ByteArray) (m : Int) : ByteArray × Int × Int := if m < 0 then (⟨#[]⟩, 0, 2) else if (rinfl s m bigK 0 []).2.2 ≠ 0 then (⟨#[]⟩, 0, (rinfl s m bigK 0 []).2.2) else (strOfNums (rinfl s m bigK 0 []).2.1, (rdAt (rinfl s m bigK 0 []).1 : Int), 0)
theorem rinfl_eq (s : ByteArray) (m : Int) : rinflF s m = inflF s m := by
 unfold rinflF inflF
 by_cases hm : m < 0
 ·rw [if_pos hm, if_pos hm]
 ·rw [if_neg hm, if_neg hm]
  have hs := says_infl s m bigK 0 []
  generalize rinfl s m bigK 0 [] = r at hs ⊢
  cases hf : infM bigK s m 0 [] with
  | bad e =>
   rw [hf] at hs
   rw [if_pos (by rw [hs.1]; exact hs.2), hs.1]
  | ok u q o' =>
   rw [hf] at hs
   have h' : r = (q, o', 0) := hs
   subst h'
   rw [if_neg (fun h => h rfl)]
end Go.Proofs.YtbgdadehjnifeaaGreat.Hand
