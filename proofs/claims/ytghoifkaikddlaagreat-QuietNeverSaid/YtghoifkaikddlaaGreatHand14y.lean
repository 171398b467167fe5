/- What is deflated is told again: in plain numbers. What is wrapped, in plain numbers: unwrapped, cut off, turned, with less room. All filters taken off, and that what is put through comes out. -/
import Derived.Test.YtghoifkaikddlaaGreatLem11p
import Derived.Test.YtghoifkaikddlaaGreatHand10m
import Derived.Test.YtghoifkaikddlaaGreatHand12b
import Derived.Test.YtghoifkaikddlaaGreatHand14w
namespace Go.Proofs.YtghoifkaikddlaaGreat.Hand
open Go.RowKit Go.Proofs.YtghoifkaikddlaaGreatW.PrintWords Go.Proofs.YtghoifkaikddlaaGreatW.PrintLast Go.Proofs.YtghoifkaikddlaaGreatW.PrintMore Go.Proofs.YtghoifkaikddlaaGreat.Num Go.Proofs.YtghoifkaikddlaaGreat.Bits
set_option linter.unusedVariables false
set_option linter.unusedSimpArgs false
set_option maxRecDepth 100000
theorem val_bit (s : ByteArray) (p : Nat) : val s p 1 = bitA s p := by simp [val]
theorem num_read {A B : List Int} {n : Int} {w : Nat} {t : ByteArray} (h : TextOf (A ++ bitsN n w ++ B) t) (h0 : 0 ≤ n) (h1 : n < 2 ^ w) (m : Int) (o : List Int) (p : Nat) (hp : p = A.length) : getM w t m p o = .ok n (p + w) o := by
 subst hp
 have hs := h.size
 rw [List.length_append, List.length_append, bitsN_length] at hs
 rw [get_ok (by omega), TextOf.get h h0 h1]
theorem sym_read {A B l : List Int} {i : Nat} {t : ByteArray} (h : TextOf (A ++ symB l i ++ B) t) (hm : mayF l = 0) (hi : i < l.length) (h0 : 0 < l.getD i 0) (m : Int) (o : List Int) (p : Nat) (hp : p = A.length) : symM l t m p o = .ok (i : Int) (p + (symB l i).length) o := by
 subst hp
 have hn : l.getD i 0 = ((l.getD i 0).toNat : Int) := by omega
 have hl : (symB l i).length = (l.getD i 0).toNat := by unfold symB; rw [s_revB_length]
 have hs := h.size
 rw [List.length_append, List.length_append, hl] at hs
 obtain ⟨lg, hlg, _⟩ := lgA_nat l
 have hrd : rdS t l A.length = ((i : Int), 0, A.length + (symB l i).length) := by
  unfold rdS
  rw [hlg, Int.toNat_natCast, hl]
  refine rd_back0 hm t i (l.getD i 0).toNat hi hn (by omega) lg hlg _ (by omega) (fun q hq => ?_)
  rw [val_bit, h.bit _ (by rw [List.length_append, List.length_append, hl]; omega), List.getD_eq_getElem?_getD, List.append_assoc, List.getElem?_append_right (by omega), Nat.add_sub_cancel_left, List.getElem?_append_left (by rw [hl]; exact hq), ← List.getD_eq_getElem?_getD]
  rfl
 unfold symM
 rw [hrd]
 rfl
theorem out_ok {xs : List Int} {t : ByteArray} {m : Int} {p : Nat} {o : List Int} (h : (o.length : Int) + xs.length ≤ m) : outM xs t m p o = .ok () p (o ++ xs) := by
 unfold outM
 rw [if_neg (by omega)]
theorem told_read {A B : List Int} {n : Int} {x : Int × Nat} {t : ByteArray} (h : TextOf (A ++ bitsN (n - x.1) x.2 ++ B) t) (h0 : 0 ≤ n - x.1) (h1 : n - x.1 < 2 ^ x.2) (m : Int) (o : List Int) (p : Nat) (hp : p = A.length) : toldM x t m p o = .ok n (p + x.2) o := by
 unfold toldM
 rw [bind_ok (num_read h h0 h1 m o p hp)]
 unfold RM.ret
 rw [show x.1 + (n - x.1) = n by omega]
theorem copyL_bytes (s : ByteArray) (back : Nat) (h1 : 1 ≤ back) : ∀ (n a : Nat), back ≤ a → a + n ≤ s.size → (∀ i, i < n → bt s ((a + i : Nat) : Int) = bt s ((a - back + i : Nat) : Int)) → copyL back n (bytesOf (s.extract 0 a)) = bytesOf (s.extract a (a + n))
 | 0, a, _, _, _ => by
  rw [copyL, Nat.add_zero]
  have : (bytesOf (s.extract a a)).length = 0 := by rw [bytesOf_length, ByteArray.size_extract]; omega
  exact (List.eq_nil_of_length_eq_zero this).symm
 | n + 1, a, hb, hs, hi => by
  have hl : (bytesOf (s.extract 0 a)).length = a := by rw [bytesOf_length, ByteArray.size_extract]; omega
  have hg : (bytesOf (s.extract 0 a)).getD (a - back) 0 = bt s (a : Int) := by
   have e := bytesOf_get? (s.extract 0 a) (a - back)
   rw [if_pos (by rw [ByteArray.size_extract]; omega), bt_extract s 0 a (a - back) (by omega) (by omega), Nat.zero_add] at e
   rw [List.getD_eq_getElem?_getD, e, Option.getD_some]
   have := hi 0 (by omega)
   rw [Nat.add_zero, Nat.add_zero] at this
   exact this.symm
  rw [copyL, hl, hg, ← bytes_extract_succ s a (by omega), copyL_bytes s back h1 n (a + 1) (by omega) (by omega) (fun i h => by
   have := hi (i + 1) (by omega)
   rw [show a + (i + 1) = a + 1 + i by omega, show a - back + (i + 1) = a + 1 - back + i by omega] at this
   exact this)]
  have e2 : bytesOf (s.extract a (a + (n + 1))) = bt s (a : Int) :: bytesOf (s.extract (a + 1) (a + (n + 1))) := by
   have hlen : a < (bytesOf s).length := by rw [bytesOf_length]; omega
   have hx : (bytesOf s)[a]'hlen = bt s (a : Int) := by
    have e := bytesOf_get? s a
    rw [if_pos (by omega), List.getElem?_eq_getElem hlen] at e
    injection e
   rw [bytesOf_extract, bytesOf_extract, List.drop_take, List.drop_take, List.drop_eq_getElem_cons hlen, hx, show a + (n + 1) - a = n + 1 by omega, show a + (n + 1) - (a + 1) = n by omega, List.take_succ_cons]
  rw [e2, show a + 1 + n = a + (n + 1) by omega]
theorem bytes_join (s : ByteArray) (a n : Nat) (h : a + n ≤ s.size) : bytesOf (s.extract 0 a) ++ bytesOf (s.extract a (a + n)) = bytesOf (s.extract 0 (a + n)) := by
 rw [bytesOf_extract, bytesOf_extract, bytesOf_extract, List.drop_zero, List.drop_zero, List.drop_take]
 rw [show a + n - a = n by omega]
 rw [List.take_add]
theorem rep_read {A B : List Int} {n back a : Nat} {s t : ByteArray} (h : TextOf (A ++ copyB n back ++ B) t) (hn : 3 ≤ n ∧ n ≤ 258) (hb : 1 ≤ back ∧ back ≤ 32768) (hba : back ≤ a) (hs : a + n ≤ s.size) (hi : ∀ i, i < n → bt s ((a + i : Nat) : Int) = bt s ((a - back + i : Nat) : Int)) (m : Int) (hm : (s.size : Int) ≤ m) (p : Nat) (hp : p = A.length + (symB fixLit (257 + codeF lensT n)).length) :
  repeatM (codeF lensT n) fixDist t m p (bytesOf (s.extract 0 a)) = .ok () (A.length + (copyB n back).length) (bytesOf (s.extract 0 (a + n))) := by
 have hlo := lens_ok (n := (n : Int)) (by omega) (by omega)
 have hdo := dist_ok (n := (back : Int)) (by omega) (by omega)
 have hcp : copyB (n : Int) (back : Int) = symB fixLit (257 + codeF lensT n) ++ bitsN (n - (lensT.getD (codeF lensT n) (0, 0)).1) (lensT.getD (codeF lensT n) (0, 0)).2 ++ (symB fixDist (codeF distT back) ++ bitsN (back - (distT.getD (codeF distT back) (0, 0)).1) (distT.getD (codeF distT back) (0, 0)).2) := rfl
 generalize codeF lensT (n : Int) = c at *
 generalize codeF distT (back : Int) = d at *
 have hd32 : d < 32 := by omega
 have hfd := fixd_pos d hd32
 have hdl : fixDist.length = 32 := by decide +kernel
 have HL := Aside0.mk hlo
 have HD := Aside0.mk hdo
 have hd30 : ¬ 30 ≤ (d : Int) := by omega
 clear hlo hdo
 obtain ⟨lb, hlb⟩ : ∃ lb, lb = lensT.getD c (0, 0) := ⟨_, rfl⟩
 obtain ⟨db, hdb⟩ : ∃ db, db = distT.getD d (0, 0) := ⟨_, rfl⟩
 rw [← hlb, ← hdb] at hcp
 rw [← hlb] at HL
 rw [← hdb] at HD
 have r1 := told_read (A := A ++ symB fixLit (257 + c)) (B := symB fixDist d ++ bitsN (back - db.1) db.2 ++ B) (n := (n : Int)) (x := lb) (t := t) (by rw [hcp] at h; simpa only [List.append_assoc] using h) HL.out.2.1 HL.out.2.2.1 m (bytesOf (s.extract 0 a)) p (by rw [List.length_append]; exact hp)
 have r2 := sym_read (A := A ++ symB fixLit (257 + c) ++ bitsN (n - lb.1) lb.2) (B := bitsN (back - db.1) db.2 ++ B) (l := fixDist) (i := d) (t := t) (by rw [hcp] at h; simpa only [List.append_assoc] using h) fixd_may (by omega) hfd.1 m (bytesOf (s.extract 0 a)) (p + lb.2) (by rw [List.length_append, List.length_append, bitsN_length, hp])
 have r3 := told_read (A := A ++ symB fixLit (257 + c) ++ bitsN (n - lb.1) lb.2 ++ symB fixDist d) (B := B) (n := (back : Int)) (x := db) (t := t) (by rw [hcp] at h; simpa only [List.append_assoc] using h) HD.out.2.1 HD.out.2.2.1 m (bytesOf (s.extract 0 a)) (p + lb.2 + (symB fixDist d).length) (by rw [List.length_append, List.length_append, List.length_append, bitsN_length, hp])
 have hl : (bytesOf (s.extract 0 a)).length = a := by rw [bytesOf_length, ByteArray.size_extract]; omega
 have hcl := copyL_bytes s back hb.1 n a hba hs hi
 have hj := bytes_join s a n hs
 have hxl : (bytesOf (s.extract a (a + n))).length = n := by rw [bytesOf_length, ByteArray.size_extract]; omega
 have hpe : p + lb.2 + (symB fixDist d).length + db.2 = A.length + (copyB n back).length := by
  rw [hcp, hp]
  simp only [List.length_append, bitsN_length]
  omega
 unfold repeatM
 rw [← hlb, bind_ok r1, bind_ok r2, if_neg hd30, Int.toNat_natCast, ← hdb, bind_ok r3]
 rw [show (lookM.bind fun o => if (o.length : Int) < (back : Int) then RM.err 3 else outM (copyL (back : Int).toNat (n : Int).toNat o)) t m (p + lb.2 + (symB fixDist d).length + db.2) (bytesOf (s.extract 0 a)) = (if ((bytesOf (s.extract 0 a)).length : Int) < (back : Int) then RM.err 3 else outM (copyL (back : Int).toNat (n : Int).toNat (bytesOf (s.extract 0 a)))) t m (p + lb.2 + (symB fixDist d).length + db.2) (bytesOf (s.extract 0 a)) from rfl]
 rw [hl, if_neg (by omega), Int.toNat_natCast, Int.toNat_natCast, hcl, out_ok (by rw [hl, hxl]; omega), hj, hpe]
theorem coded_read (s t : ByteArray) (m : Int) (hm : (s.size : Int) ≤ m) (Z : List Int) : ∀ (e a : Nat) (A : List Int) (k : Nat), s.size - a ≤ e → a ≤ s.size → e < k → TextOf (A ++ fixG s (s.size + 1 - a) a ++ Z) t →
  codedM fixLit fixDist k t m A.length (bytesOf (s.extract 0 a)) = .ok () (A.length + (fixG s (s.size + 1 - a) a).length) (bytesOf s) := by
 have hfl : fixLit.length = 288 := by decide +kernel
 have fin : ∀ (A : List Int) (k : Nat), TextOf (A ++ fixG s (s.size + 1 - s.size) s.size ++ Z) t → codedM fixLit fixDist (k + 1) t m A.length (bytesOf (s.extract 0 s.size)) = .ok () (A.length + (fixG s (s.size + 1 - s.size) s.size).length) (bytesOf s) := fun A k h => by
  rw [fixG_eq s s.size (Nat.le_refl _), if_neg (by omega)] at h ⊢
  have r1 := sym_read h fixl_may (by omega) (fixl_pos 256 (by omega)).1 m (bytesOf (s.extract 0 s.size)) A.length rfl
  rw [codedM, bind_ok r1, if_pos (show ((256 : Nat) : Int) = 256 from rfl), ByteArray.extract_zero_size]
  rfl
 intro e
 induction e with
 | zero =>
  intro a A k he ha hk h
  obtain rfl : a = s.size := by omega
  obtain ⟨k, rfl⟩ : ∃ j, k = j + 1 := ⟨k - 1, by omega⟩
  exact fin A k h
 | succ e ih =>
  intro a A k he ha hk h
  obtain ⟨k, rfl⟩ : ∃ j, k = j + 1 := ⟨k - 1, by omega⟩
  by_cases hlt : a < s.size
  ·rw [fixG_eq s a ha, if_pos hlt] at h ⊢
   have hfo := find_ok s a ha
   have hfd := find_le s a ha
   by_cases h3 : (findF s a).1 < 3
   ·rw [if_pos h3] at h ⊢
    have hby := bt_byte s (a : Int)
    obtain ⟨y, hy⟩ : ∃ y : Nat, bt s (a : Int) = (y : Int) := ⟨(bt s (a : Int)).toNat, by omega⟩
    have hsu := bytes_extract_succ s a hlt
    rw [hy] at hsu
    rw [hy, Int.toNat_natCast] at h ⊢
    rw [hy] at hby
    have hl : (bytesOf (s.extract 0 a)).length = a := by rw [bytesOf_length, ByteArray.size_extract]; omega
    have r1 := sym_read (A := A) (B := fixG s (s.size + 1 - (a + 1)) (a + 1) ++ Z) (l := fixLit) (i := y) (t := t) (by simpa only [List.append_assoc] using h) fixl_may (by omega) (fixl_pos y (by omega)).1 m (bytesOf (s.extract 0 a)) A.length rfl
    have r2 := ih (a + 1) (A ++ symB fixLit y) k (by omega) (by omega) (by omega) (by simpa only [List.append_assoc] using h)
    have e256 : ¬ (y : Int) = 256 := by omega
    have e286 : ¬ 286 ≤ (y : Int) := by omega
    have elt : ¬ 256 < (y : Int) := by omega
    have emod : (y : Int) % 256 = (y : Int) := by omega
    have r3 : outM [(y : Int) % 256] t m (A.length + (symB fixLit y).length) (bytesOf (s.extract 0 a)) = .ok () (A.length + (symB fixLit y).length) (bytesOf (s.extract 0 (a + 1))) := by
     rw [out_ok (by rw [hl, List.length_singleton]; omega), emod, hsu]
    rw [codedM, bind_ok r1, if_neg e256, if_neg e286, if_neg elt, bind_ok r3]
    rw [List.length_append] at r2
    rw [r2, List.length_append]
    congr 1
    omega
   ·rw [if_neg h3] at h ⊢
    have hbr : 1 ≤ (findF s a).2 ∧ (findF s a).2 ≤ a ∧ (findF s a).2 ≤ 32768 ∧ (findF s a).1 = alk s 258 (a - (findF s a).2) a := by
     rcases hfo with h | h
     ·omega
     ·exact h
    obtain ⟨n, hn⟩ : ∃ n, n = (findF s a).1 := ⟨_, rfl⟩
    obtain ⟨b, hb⟩ : ∃ b, b = (findF s a).2 := ⟨_, rfl⟩
    rw [← hn, ← hb] at h hbr ⊢
    rw [← hn] at hfd h3
    have hsame : ∀ i, i < n → bt s ((a + i : Nat) : Int) = bt s ((a - b + i : Nat) : Int) := fun i hi => alk_same s 258 (a - b) a i (by rw [← hbr.2.2.2]; exact hi)
    have hc29 := (lens_ok (n := (n : Int)) (by omega) (by omega)).1
    have hcp : copyB (n : Int) (b : Int) = symB fixLit (257 + codeF lensT n) ++ (bitsN (n - (lensT.getD (codeF lensT n) (0, 0)).1) (lensT.getD (codeF lensT n) (0, 0)).2 ++ (symB fixDist (codeF distT b) ++ bitsN (b - (distT.getD (codeF distT b) (0, 0)).1) (distT.getD (codeF distT b) (0, 0)).2)) := by unfold copyB; rw [List.append_assoc]
    have r1 := sym_read (A := A) (B := (bitsN (n - (lensT.getD (codeF lensT n) (0, 0)).1) (lensT.getD (codeF lensT n) (0, 0)).2 ++ (symB fixDist (codeF distT b) ++ bitsN (b - (distT.getD (codeF distT b) (0, 0)).1) (distT.getD (codeF distT b) (0, 0)).2)) ++ (fixG s (s.size + 1 - (a + n)) (a + n) ++ Z)) (l := fixLit) (i := 257 + codeF lensT n) (t := t) (by rw [hcp] at h; simpa only [List.append_assoc] using h) fixl_may (by omega) (fixl_pos (257 + codeF lensT n) (by omega)).1 m (bytesOf (s.extract 0 a)) A.length rfl
    have r2 := rep_read (A := A) (B := fixG s (s.size + 1 - (a + n)) (a + n) ++ Z) (n := n) (back := b) (a := a) (s := s) (t := t) (by simpa only [List.append_assoc] using h) (by omega) (by omega) hbr.2.1 hfd.2 hsame m hm _ rfl
    have r3 := ih (a + n) (A ++ copyB n b) k (by omega) (by omega) (by omega) (by simpa only [List.append_assoc] using h)
    clear hcp h
    generalize codeF lensT (n : Int) = c at *
    have e256 : ¬ ((257 + c : Nat) : Int) = 256 := by omega
    have e286 : ¬ 286 ≤ ((257 + c : Nat) : Int) := by omega
    have elt : 256 < ((257 + c : Nat) : Int) := by omega
    have ec : (((257 + c : Nat) : Int) - 257).toNat = c := by omega
    rw [codedM, bind_ok r1, if_neg e256, if_neg e286, if_pos elt, ec, bind_ok r2]
    rw [List.length_append] at r3
    rw [r3, List.length_append]
    congr 1
    omega
  ·obtain rfl : a = s.size := by omega
   exact fin A k h
theorem fix_text (s : ByteArray) : TextOf (fixBits s) (fixF s) := by
 have hbit : Bit01 (fixBits s) := ((bit01_bits _ _).app (bit01_bits _ _)).app (bit01_fix _ _ _)
 obtain ⟨xs, x, m, hh⟩ := held_bits _ hbit
 have h := hh.text
 rw [held_textL hh] at h
 exact h
theorem rd_len (n : Nat) : rdAt n = (n + 7) / 8 := rfl
theorem inf_ok {t : ByteArray} {m : Int} {q : Nat} {r : List Int} (h : blockM t m 0 [] = .ok 1 q r) : infM bigK t m 0 [] = .ok () q r := by
 rw [show bigK = 80000000 + 1 from rfl, infM, bind_ok h, if_pos rfl]
 rfl
theorem big_gt (n : Nat) (h : n ≤ 100000) : n < bigK := by unfold bigK; omega
theorem fix_back (s : ByteArray) (hs : s.size ≤ 100000) : inflF (fixF s) s.size = (s, ((fixF s).size : Int), 0) := by
 have ht := fix_text s
 have hsz := ht.size
 have r0 := num_read (A := []) (B := bitsN 1 2 ++ fixG s (s.size + 1) 0) (n := 1) (w := 1) (t := fixF s) (by unfold fixBits at ht; simpa only [List.append_assoc, List.nil_append] using ht) (by decide) (by decide) (s.size : Int) [] 0 rfl
 have r1 := num_read (A := bitsN 1 1) (B := fixG s (s.size + 1) 0) (n := 1) (w := 2) (t := fixF s) ht (by decide) (by decide) (s.size : Int) [] (0 + 1) rfl
 have r2 := coded_read s (fixF s) (s.size : Int) (Int.le_refl _) [] s.size 0 (bitsN 1 1 ++ bitsN 1 2) bigK (by omega) (by omega) (big_gt _ hs) (by rw [List.append_nil, Nat.sub_zero]; exact ht)
 have e0 : bytesOf (s.extract 0 0) = [] := by rw [bytesOf_extract]; rfl
 rw [e0, show (bitsN 1 1 ++ bitsN 1 2).length = 0 + 1 + 2 from rfl, Nat.sub_zero] at r2
 have hlen : (fixBits s).length = 0 + 1 + 2 + (fixG s (s.size + 1) 0).length := by
  unfold fixBits
  simp only [List.length_append, bitsN_length]
 have hb : blockM (fixF s) (s.size : Int) 0 [] = .ok 1 (fixBits s).length (bytesOf s) := by
  unfold blockM
  rw [bind_ok r0, bind_ok r1, if_neg (by decide), if_pos rfl, bind_ok r2, hlen]
  rfl
 unfold inflF
 rw [if_neg (by omega), inf_ok hb]
 dsimp only
 rw [strOfNums_bytesOf, rd_len, ← hsz]
theorem flat_text (ys : List Int) (h : ∀ y ∈ ys, 0 ≤ y ∧ y < 256) : TextOf (flat ys) (strOfNums ys) := by
 refine ⟨?_, ?_⟩
 ·rw [strOfNums_size, flat_length]; omega
 ·rw [bytesOf_strOfNums _ h, flat_length, show (8 - 8 * ys.length % 8) % 8 = 0 by omega, List.replicate_zero, List.append_nil]
theorem store_back (s : ByteArray) (hs : s.size ≤ 65535) : inflF (storeF s) s.size = (s, ((storeF s).size : Int), 0) := by
 have hys : ∀ y ∈ headR s.size 1 ++ bytesOf s, 0 ≤ y ∧ y < 256 := fun y hy => by
  rcases List.mem_append.1 hy with hy | hy
  ·exact headR_range _ _ (by omega) (by omega) (by decide) y hy
  ·exact bytes_range s y hy
 have hst : storeF s = strOfNums (headR s.size 1 ++ bytesOf s) := by
  rw [store_same]
  unfold refStoreF
  rw [refB, if_pos hs]
  rfl
 have ht := flat_text _ hys
 rw [← hst, flat_app, flat_headR _ _ (by omega) (by omega)] at ht
 have e8 : bitsN (1 : Int) 8 = bitsN 1 1 ++ (bitsN 0 2 ++ bitsN 0 5) := by decide
 rw [e8] at ht
 have hbt : bytesOf (storeF s) = headR s.size 1 ++ bytesOf s := by rw [hst, bytesOf_strOfNums _ hys]
 have hsz : (storeF s).size = 5 + s.size := by
  have := congrArg List.length hbt
  rw [bytesOf_length, List.length_append, bytesOf_length] at this
  rw [this]; rfl
 have r0 := num_read (A := []) (B := bitsN 0 2 ++ (bitsN 0 5 ++ (bitsN s.size 16 ++ (bitsN (65535 - s.size) 16 ++ flat (bytesOf s))))) (n := 1) (w := 1) (t := storeF s) (by simpa only [List.append_assoc, List.nil_append] using ht) (by decide) (by decide) (s.size : Int) [] 0 rfl
 have r1 := num_read (A := bitsN 1 1) (B := bitsN 0 5 ++ (bitsN s.size 16 ++ (bitsN (65535 - s.size) 16 ++ flat (bytesOf s)))) (n := 0) (w := 2) (t := storeF s) (by simpa only [List.append_assoc, List.nil_append] using ht) (by decide) (by decide) (s.size : Int) [] (0 + 1) rfl
 have r2 := num_read (A := bitsN 1 1 ++ (bitsN 0 2 ++ bitsN 0 5)) (B := bitsN (65535 - s.size) 16 ++ flat (bytesOf s)) (n := (s.size : Int)) (w := 16) (t := storeF s) (by simpa only [List.append_assoc, List.nil_append] using ht) (by omega) (by omega) (s.size : Int) [] 8 rfl
 have r3 := num_read (A := bitsN 1 1 ++ (bitsN 0 2 ++ bitsN 0 5) ++ bitsN s.size 16) (B := flat (bytesOf s)) (n := 65535 - (s.size : Int)) (w := 16) (t := storeF s) (by simpa only [List.append_assoc, List.nil_append] using ht) (by omega) (by omega) (s.size : Int) [] (8 + 16) (by rw [List.length_append, bitsN_length]; rfl)
 have hx : bytesOf ((storeF s).extract 5 (5 + s.size)) = bytesOf s := by
  rw [bytesOf_extract, hbt, List.take_of_length_le (by rw [List.length_append, bytesOf_length]; show 5 + s.size ≤ 5 + s.size; omega)]
  exact List.drop_left' (rfl : (headR s.size 1).length = 5)
 have hby : bytesM s.size (storeF s) (s.size : Int) (8 + 16 + 16) [] = .ok (bytesOf s) (8 * (5 + s.size)) [] := by
  unfold bytesM
  rw [show rdAt (8 + 16 + 16) = 5 from rfl, if_pos (by omega), hx]
 have hsM : storedM (storeF s) (s.size : Int) (0 + 1 + 2) [] = .ok () (8 * (5 + s.size)) (bytesOf s) := by
  unfold storedM
  rw [bind_ok (show alignM (storeF s) (s.size : Int) (0 + 1 + 2) [] = .ok () 8 [] from rfl), bind_ok r2, bind_ok r3, if_neg (by omega), Int.toNat_natCast, bind_ok hby, out_ok (by rw [bytesOf_length]; simp)]
  rfl
 have hb : blockM (storeF s) (s.size : Int) 0 [] = .ok 1 (8 * (5 + s.size)) (bytesOf s) := by
  unfold blockM
  rw [bind_ok r0, bind_ok r1, if_pos rfl, bind_ok hsM]
  rfl
 unfold inflF
 rw [if_neg (by omega), inf_ok hb]
 dsimp only
 rw [strOfNums_bytesOf, rd_len, hsz, show (8 * (5 + s.size) + 7) / 8 = 5 + s.size by omega]
theorem best_back (s : ByteArray) (hs : s.size ≤ 65535) : inflF (bestF s) s.size = (s, ((bestF s).size : Int), 0) := by
 unfold bestF
 split
 ·exact fix_back s (by omega)
 ·exact store_back s hs
end Go.Proofs.YtghoifkaikddlaaGreat.Hand
namespace Go.Proofs.YtghoifkaikddlaaGreat.Hand
open Go.RowKit Go.Proofs.YtghoifkaikddlaaGreatW.PrintWords Go.Proofs.YtghoifkaikddlaaGreatW.PrintLast Go.Proofs.YtghoifkaikddlaaGreatW.PrintMore Go.Proofs.YtghoifkaikddlaaGreat.Num Go.Proofs.YtghoifkaikddlaaGreat.Bits
set_option linter.unusedVariables false
set_option linter.unusedSimpArgs false
set_option maxRecDepth 100000
theorem best_inf (s : ByteArray) (hs : s.size ≤ 65535) : ∃ p o, infM bigK (bestF s) (s.size : Int) 0 [] = .ok () p o ∧ strOfNums o = s ∧ rdAt p = (bestF s).size ∧ p ≤ 8 * (bestF s).size ∧ o.length = s.size := by
 have hb := best_back s hs
 rcases inflF_cases (bestF s) (s.size : Int) (by omega) with ⟨e, he, _, hr⟩ | ⟨p, o, hi, hr, hp1, hp2, ho⟩
 ·rw [hr] at hb
  injection hb with _ h2
  injection h2 with _ h3
  exact absurd h3 he
 ·rw [hr] at hb
  injection hb with h1 h2
  injection h2 with h2 _
  refine ⟨p, o, hi, h1, by omega, hp2, ?_⟩
  rw [← strOfNums_size, h1]
theorem ext_left (a b : ByteArray) (c : Nat) (h : c ≤ a.size) : (a ++ b).extract 0 c = a.extract 0 c := by
 apply bytes_ext
 rw [bytesOf_extract, bytesOf_extract, show bytesOf (a ++ b) = bytesOf a ++ bytesOf b by unfold bytesOf; rw [ByteArray.data_append, Array.toList_append, List.map_append], List.drop_zero, List.drop_zero, List.take_append_of_le_length (by rw [bytesOf_length]; exact h)]
theorem bytes_app (a b : ByteArray) : bytesOf (a ++ b) = bytesOf a ++ bytesOf b := by unfold bytesOf; rw [ByteArray.data_append, Array.toList_append, List.map_append]
theorem ext_right (a b : ByteArray) : (a ++ b).extract a.size (a ++ b).size = b := by
 apply bytes_ext
 rw [bytesOf_extract, bytes_app, List.take_of_length_le (by rw [List.length_append, bytesOf_length, bytesOf_length, ByteArray.size_append]; exact Nat.le_refl _)]
 exact List.drop_left' (by rw [bytesOf_length])
theorem head_ok (b : ByteArray) : headE (zhead ++ b) = 0 := by
 have hz : (zhead ++ b).size = 2 + b.size := by rw [ByteArray.size_append]; rfl
 have e0 : bt (zhead ++ b) 0 = 120 := by rw [bt_cat_left _ _ _ (by decide)]; rfl
 have e1 : bt (zhead ++ b) 1 = 1 := by rw [bt_cat_left _ _ _ (by decide)]; rfl
 unfold headE
 rw [if_neg (by omega), e0, e1]
 decide
theorem head_body (b : ByteArray) : (zhead ++ b).extract 2 (zhead ++ b).size = b := ext_right zhead b
theorem tail_ok (s : ByteArray) : tailE (tailF s) s = 0 := by
 have h4 := tailF_size s
 unfold tailE
 rw [if_neg (by omega), if_neg (fun h => h (by rw [← h4]; exact ByteArray.extract_zero_size)), if_neg (fun h => h h4)]
theorem wrap_eq (s : ByteArray) : wrapF s = zhead ++ (bestF s ++ tailF s) := by unfold wrapF; rw [ByteArray.append_assoc]
end Go.Proofs.YtghoifkaikddlaaGreat.Hand
namespace Go.Proofs.YtghoifkaikddlaaGreat.Hand
open Go.RowKit Go.Proofs.YtghoifkaikddlaaGreatW.PrintWords Go.Proofs.YtghoifkaikddlaaGreatW.PrintLast Go.Proofs.YtghoifkaikddlaaGreat.Num
set_option linter.unusedVariables false
set_option linter.unusedSimpArgs false
noncomputable def offA (k : Nat) (s : ByteArray) (m : Int) : ByteArray × Int := if k = 1 then hexD s else if k = 2 then runsD s m else unwrapF s m
theorem runwrap_calls (s : ByteArray) (m : Int) (w : World) (hs : s.size ≤ 60000) (h0 : 0 ≤ m) (h1 : m ≤ 60000) : Calls Tryz.prog 54 #[.int .i64 m, .string s] w fun e w' => e = .returned (.tuple #[.string (unwrapF s m).1, .int .i64 (unwrapF s m).2]) ∧ Below w.heap.size w w' := by
 have KR := Aside0.mk (fun W => unwrap_calls W s m (by omega) (by omega))
 clear hs h0 h1
 go_enter Tryz.func54, Tryz.ntmps54
 go_wp2_with (first | (go_at_call 76; (with_reducible refine (KR.out _).mono ?_); rintro e w1 ⟨rfl, hb1⟩))
 go_returns
 exact ⟨rfl, hb1⟩
theorem unwrapF_size (s : ByteArray) (m : Int) (h0 : 0 ≤ m) : ((unwrapF s m).1.size : Int) ≤ m := by
 have z : ((⟨#[]⟩ : ByteArray).size : Int) ≤ m := h0
 have hi : ((inflF (s.extract 2 s.size) m).1.size : Int) ≤ m := by
  rcases inflF_cases (s.extract 2 s.size) m h0 with ⟨e, he, _, hr⟩ | ⟨p, o, hi, hr, hp1, hp2, ho⟩
  ·rw [hr]; exact z
  ·rw [hr]
   show ((strOfNums o).size : Int) ≤ m
   rw [strOfNums_size]
   omega
 unfold unwrapF
 split
 ·exact z
 ·split
  ·split
   ·split
    ·exact hi
    ·exact z
   ·exact z
  ·exact z
theorem offA_ok : OffOk offA (fun k => k = 1 ∨ k = 2 ∨ k = 3) where
 c1 := fun _ s m w hs => hexD_calls s w hs
 c2 := fun _ s m w hs h0 h1 => rruns_calls s m w (by omega) h0
 c3 := fun _ s m w hs h0 h1 => runwrap_calls s m w hs h0 h1
 sz := fun k s m hk hs h0 h1 => by
  rcases hk with rfl | rfl | rfl
  ·have := hexD_size s
   show (hexD s).1.size ≤ _
   omega
  ·have := (runsD_spec s m (by omega) h0).2
   show (runsD s m).1.size ≤ _
   omega
  ·have := unwrapF_size s m h0
   show (unwrapF s m).1.size ≤ _
   omega
theorem unwrap_room (s : ByteArray) (m : Int) (hs : s.size ≤ 65535) (hm : (s.size : Int) ≤ m) : unwrapF (wrapF s) m = (s, 0) := by
 obtain ⟨p, o, hi, h1, h2, h3, h4⟩ := best_inf s hs
 have hc := (Good.inf bigK).cut (bestF s ++ tailF s) (Nat.zero_le _) hi (agree_more (bestF s) (tailF s)) (Nat.zero_le _)
 rw [ByteArray.size_append, if_pos (by omega)] at hc
 have h := inflF_room m (by omega) hc (by omega)
 rw [if_pos (by omega), h1, h2] at h
 rw [wrap_eq]
 unfold unwrapF
 rw [if_neg (by omega), if_pos (head_ok _), head_body, h]
 dsimp only
 rw [if_pos rfl, Int.toNat_natCast, ext_right, if_pos (tail_ok s)]
theorem off_on (k : Nat) (s : ByteArray) (m : Int) (hk : k = 1 ∨ k = 2 ∨ k = 3) (hs : s.size ≤ 60000) (hm : (s.size : Int) ≤ m) : offA k (onA k s) m = (s, 0) := by
 rcases hk with rfl | rfl | rfl
 ·exact hex_back s
 ·exact runs_back s m hs hm
 ·exact unwrap_room s m (by omega) hm
theorem fold_back (m : Int) (s : ByteArray) : ∀ (l : List ByteArray), l.length ≤ 4 → (∀ nm ∈ l, kn nm ≠ 0) → 2 ^ l.length * (s.size + 20) ≤ 60000 → ((2 ^ (l.length - 1) * (s.size + 20) : Nat) : Int) ≤ m + 20 → foldOff offA m l (foldOn onA l s) = (s, 0)
 | [], _, _, _, _ => rfl
 | nm :: l, h4, hk, hs, hm => by
  rw [List.length_cons, Nat.pow_succ] at hs
  have hp : 2 ^ l.length * 2 * (s.size + 20) = 2 * (2 ^ l.length * (s.size + 20)) := by rw [Nat.mul_comm (2 ^ l.length) 2, Nat.mul_assoc]
  rw [hp] at hs
  have hkl : ∀ x ∈ l, kn x ≠ 0 := fun x hx => hk x (by simp [hx])
  have hl4 : l.length ≤ 4 := by simp at h4; omega
  have hz := fold_size l s hl4 hkl (by omega)
  rw [List.length_cons, Nat.add_sub_cancel] at hm
  have h := off_on (kn nm) (foldOn onA l s) m (kA (hk nm (by simp))) (by omega) (by omega)
  have hle : 2 ^ (l.length - 1) * (s.size + 20) ≤ 2 ^ l.length * (s.size + 20) := Nat.mul_le_mul_right _ (Nat.pow_le_pow_right (by omega) (by omega))
  have ih := fold_back m s l hl4 hkl (by omega) (by omega)
  show foldOff offA m (nm :: l) (onA (kn nm) (foldOn onA l s)) = _
  rw [foldOff, h]
  dsimp only
  rw [if_pos rfl]
  exact ih
end Go.Proofs.YtghoifkaikddlaaGreat.Hand
