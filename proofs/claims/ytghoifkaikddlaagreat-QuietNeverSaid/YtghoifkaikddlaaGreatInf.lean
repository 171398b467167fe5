/- Codes: what the counts, the first numbers, the codes and the symbols are, in plain numbers. Codes: the symbols by length, and what is read, in plain numbers. Codes: a tree of lengths; what it reads. Inflate in plain numbers: what is read, step by step; what is cut off is too short, what needs more room is too big. -/
import Derived.Test.YtghoifkaikddlaaGreatHand09n
import Derived.Handy
import Derived.Test.YtghoifkaikddlaaGreatHand08p
namespace Go.Proofs.YtghoifkaikddlaaGreat.Hand
open Go.RowKit Go.Proofs.YtghoifkaikddlaaGreatW.PrintWords Go.Proofs.YtghoifkaikddlaaGreatW.PrintLast Go.Proofs.YtghoifkaikddlaaGreatW.PrintMore Go.Proofs.YtghoifkaikddlaaGreat.Num
set_option linter.unusedVariables false
set_option linter.unusedSimpArgs false
theorem getD_set9 (cs : List Int) (i j : Nat) (v : Int) (hi : i < cs.length) : (cs.set i v).getD j 0 = if i = j then v else cs.getD j 0 := by
  rw [List.getD_eq_getElem?_getD, List.getD_eq_getElem?_getD, List.getElem?_set]
  by_cases h : i = j
  · subst h; simp [hi]
  · simp [h]
theorem cntS_getD : ∀ (l cs : List Int) (k : Nat), (∀ x ∈ l, 0 ≤ x ∧ x < cs.length) → (cntS cs l).getD k 0 = cs.getD k 0 + (l.count (k : Int) : Nat)
  | [], cs, k, _ => by simp [cntS]
  | n :: t, cs, k, h => by
    have hn := h n (List.mem_cons_self ..)
    rw [cntS, cntS_getD t _ k (fun x hx => by rw [List.length_set]; exact h x (List.mem_cons_of_mem _ hx)), getD_set9 _ _ _ _ (by omega), List.count_cons]
    by_cases hk : n = (k : Int)
    · rw [if_pos (by omega), if_pos (by simpa using hk)]
      rw [show n.toNat = k by omega]
      omega
    · rw [if_neg (by omega), if_neg (by simpa using hk)]
      omega
theorem cntE_in {l : List Int} (h : cntE l = 0) : l.length ≤ 320 ∧ ∀ x ∈ l, 0 ≤ x ∧ x ≤ 15 := by
  unfold cntE at h
  by_cases h1 : 320 < l.length
  · rw [if_pos h1] at h; cases h
  · rw [if_neg h1] at h
    refine ⟨by omega, ?_⟩
    split at h
    · rename_i h2
      intro x hx
      simpa using List.all_eq_true.1 h2 x hx
    · cases h
theorem zeros_getD (k : Nat) : zeros.getD k 0 = 0 := by
  rw [List.getD_eq_getElem?_getD, zeros, List.getElem?_replicate]; split <;> rfl
theorem cntL_getD {l : List Int} (h : cntE l = 0) (k : Nat) : (cntL l).getD k 0 = if k = 0 then 0 else (l.count (k : Int) : Nat) := by
  have hl : (cntS zeros l).length = 16 := by rw [cntS_length]; rfl
  unfold cntL
  rw [if_pos h, getD_set9 _ _ _ _ (by omega)]
  by_cases hk : k = 0
  · subst hk; rfl
  · rw [if_neg (Ne.symm hk), if_neg hk, cntS_getD l zeros k (fun x hx => by have := (cntE_in h).2 x hx; rw [show (zeros.length : Int) = 16 from rfl]; omega), zeros_getD]
    omega
theorem may_cnt {l : List Int} (h : mayF l = 0) : cntE l = 0 := by
  rcases cntE_cases l with h0 | h0 | h0
  · exact h0
  · unfold mayF chkF at h; simp [h0] at h
  · unfold mayF chkF at h; simp [h0] at h
def sumG : List Int → Int → Int
  | [], x => x
  | c :: t, x => sumG t (2 * x - c)
theorem sumG_neg : ∀ (t : List Int) (x : Int), (∀ c ∈ t, 0 ≤ c) → x < 0 → sumG t x < 0
  | [], x, _, h => h
  | c :: t, x, hc, h => sumG_neg t _ (fun d hd => hc d (List.mem_cons_of_mem _ hd)) (by have := hc c (List.mem_cons_self ..); omega)
theorem leftG_sum : ∀ (t : List Int) (x : Int), (∀ c ∈ t, 0 ≤ c) → 0 ≤ x → leftG t x = if sumG t x < 0 then -1 else sumG t x
  | [], x, _, h => by rw [leftG, sumG, if_neg (by omega)]
  | c :: t, x, hc, h => by
    have hc' : ∀ d ∈ t, 0 ≤ d := fun d hd => hc d (List.mem_cons_of_mem _ hd)
    rw [leftG, sumG]
    by_cases h1 : 2 * x - c < 0
    · rw [if_pos h1, if_pos (sumG_neg t _ hc' h1)]
    · rw [if_neg h1, leftG_sum t _ hc' (by omega)]
theorem sumG_sub : ∀ (t : List Int) (x y : Int), sumG t (x + y) = sumG t x + y * 2 ^ t.length
  | [], x, y => by simp [sumG]
  | c :: t, x, y => by
    rw [sumG, sumG, show 2 * (x + y) - c = 2 * x - c + 2 * y by omega, sumG_sub t, List.length_cons, Int.pow_succ']
    rw [show 2 * y * 2 ^ t.length = y * (2 * 2 ^ t.length) by rw [Int.mul_comm 2 y, Int.mul_assoc]]
theorem sumG_set : ∀ (t : List Int) (x : Int) (j : Nat), j < t.length → sumG (t.set j (t.getD j 0 + 1)) x = sumG t x - 2 ^ (t.length - 1 - j)
  | [], x, j, h => absurd h (Nat.not_lt_zero _)
  | c :: t, x, 0, h => by
    rw [List.set_cons_zero, sumG, sumG, List.getD_cons_zero, show 2 * x - (c + 1) = 2 * x - c + (-1) by omega, sumG_sub]
    simp
    omega
  | c :: t, x, j + 1, h => by
    rw [List.set_cons_succ, sumG, sumG, List.getD_cons_succ, sumG_set t _ j (by simpa using h), List.length_cons, show t.length + 1 - 1 - (j + 1) = t.length - 1 - j by omega]
def part9 (n : Int) : Int := if 0 < n then 2 ^ (15 - n.toNat) else 0
def kraft : List Int → Int
  | [] => 0
  | n :: t => part9 n + kraft t
theorem part9_nonneg (n : Int) : 0 ≤ part9 n := by
  unfold part9; split
  · exact Int.le_of_lt (Int.pow_pos (by decide))
  · omega
theorem kraft_nonneg : ∀ l : List Int, 0 ≤ kraft l
  | [] => by simp [kraft]
  | n :: t => by have h1 := part9_nonneg n; have h2 := kraft_nonneg t; rw [kraft]; omega
theorem cntS_sum : ∀ (l cs : List Int), cs.length = 16 → (∀ x ∈ l, 0 ≤ x ∧ x ≤ 15) → sumG ((cntS cs l).drop 1) 1 = sumG (cs.drop 1) 1 - kraft l
  | [], cs, _, _ => by simp [cntS, kraft]
  | n :: t, cs, hl, h => by
    have hn := h n (List.mem_cons_self ..)
    rw [cntS, cntS_sum t _ (by rw [List.length_set]; exact hl) (fun x hx => h x (List.mem_cons_of_mem _ hx)), kraft, part9]
    obtain ⟨m, rfl⟩ := Int.eq_ofNat_of_zero_le hn.1
    rw [Int.toNat_natCast]
    match cs, hl with
    | c :: t', hl =>
      cases m with
      | zero => simp
      | succ m =>
        rw [if_pos (by omega), List.set_cons_succ, List.drop_one, List.tail_cons, List.drop_one, List.tail_cons, List.getD_cons_succ, sumG_set t' 1 m (by simp at hl; omega)]
        rw [show t'.length = 15 by simpa using hl, show 15 - 1 - m = 15 - (m + 1) by omega]
        omega
theorem leftF_kraft {l : List Int} (h : cntE l = 0) : leftF (cntL l) = if kraft l ≤ 32768 then 32768 - kraft l else -1 := by
  have hr := cntL_range l
  have hs : sumG ((cntL l).drop 1) 1 = 32768 - kraft l := by
    have h1 := cntS_sum l zeros rfl (cntE_in h).2
    have h2 : (cntL l).drop 1 = (cntS zeros l).drop 1 := by
      unfold cntL
      rw [if_pos h]
      have hl : (cntS zeros l).length = 16 := by rw [cntS_length]; rfl
      match cntS zeros l, hl with
      | c :: t, _ => rfl
    rw [h2, h1]
    rfl
  rw [leftF, leftG_sum _ _ (fun c hc => (hr c (List.mem_of_mem_drop hc)).1) (by omega), hs]
  by_cases h1 : kraft l ≤ 32768
  · rw [if_neg (by omega), if_pos h1]
  · rw [if_pos (by omega), if_neg h1]
theorem kraft_zero : ∀ (l : List Int), kraft l = 0 → ∀ x ∈ l, x ≤ 0
  | [], _, x, hx => absurd hx (List.not_mem_nil)
  | n :: t, h, x, hx => by
    have h1 := part9_nonneg n
    have h2 := kraft_nonneg t
    rw [kraft] at h
    rcases List.mem_cons.1 hx with rfl | hx
    · have h3 : part9 x = 0 := by omega
      unfold part9 at h3
      split at h3
      · have := pow_pos' (15 - x.toNat); omega
      · omega
    · exact kraft_zero t (by omega) x hx
theorem cntL_zeros {l : List Int} (h : cntE l = 0) : cntL l = zeros ↔ kraft l = 0 := by
  constructor
  · intro hz
    have h1 := leftF_kraft h
    rw [hz, show leftF zeros = 32768 from by decide] at h1
    have := kraft_nonneg l
    split at h1 <;> omega
  · intro hk
    have hx := kraft_zero l hk
    have hl := cntL_length l
    refine List.ext_getElem (by rw [hl]; rfl) (fun j h1 h2 => ?_)
    have h3 := cntL_getD h j
    rw [List.getD_eq_getElem?_getD, List.getElem?_eq_getElem h1, Option.getD_some] at h3
    rw [h3]
    have h4 : zeros[j] = 0 := by
      have := zeros_getD j
      rwa [List.getD_eq_getElem?_getD, List.getElem?_eq_getElem h2, Option.getD_some] at this
    rw [h4]
    split
    · rfl
    · rw [List.count_eq_zero_of_not_mem (fun hm => by have := hx _ hm; omega)]; rfl
theorem chk_eq (l : List Int) : chkF l = if 320 < l.length then 2 else if l.all (fun n => decide (0 ≤ n ∧ n ≤ 15)) then (if kraft l = 0 then 12 else if 32768 < kraft l then 7 else if kraft l < 32768 then 5 else 0) else 3 := by
  by_cases h : cntE l = 0
  · have hh := h
    unfold cntE at hh
    unfold chkF
    rw [if_neg (by simpa using h), leftF_kraft h]
    by_cases h1 : 320 < l.length
    · rw [if_pos h1] at hh; cases hh
    · rw [if_neg h1] at hh ⊢
      split at hh
      · rename_i h2
        rw [if_pos h2]
        by_cases h3 : kraft l = 0
        · rw [if_pos ((cntL_zeros h).2 h3), if_pos h3]
        · rw [if_neg (fun hz => h3 ((cntL_zeros h).1 hz)), if_neg h3]
          generalize kraft l = K
          by_cases h4 : K ≤ 32768
          · rw [if_pos h4]
            by_cases h5 : K < 32768
            · simp [h5, show ¬ 32768 < K by omega, show ¬ 32768 - K < 0 by omega]
            · simp [h5, show ¬ 32768 < K by omega, show ¬ 32768 - K < 0 by omega]
          · simp [h4, show 32768 < K by omega]
      · cases hh
  · unfold chkF
    rw [if_pos (by simpa using h)]
    unfold cntE at h ⊢
    by_cases h1 : 320 < l.length
    · rw [if_pos h1, if_pos h1]
    · rw [if_neg h1] at h
      rw [if_neg h1, if_neg h1]
      split at h
      · exact absurd rfl h
      · rename_i h2
        rw [if_neg h2, if_neg h2]
theorem code9_getD : ∀ (l nx : List Int) (i : Nat), (∀ x ∈ l, 0 ≤ x ∧ x < nx.length) → i < l.length → (code9 nx l).getD i 0 = if 0 < l.getD i 0 then nx.getD (l.getD i 0).toNat 0 + ((l.take i).count (l.getD i 0) : Nat) else 0
  | [], _, i, _, h => absurd h (Nat.not_lt_zero _)
  | n :: t, nx, 0, hx, _ => by simp [code9]
  | n :: t, nx, i + 1, hx, h => by
    have hn := hx n (List.mem_cons_self ..)
    have ht : i < t.length := by simpa using h
    have hm : t.getD i 0 ∈ t := by rw [List.getD_eq_getElem?_getD, List.getElem?_eq_getElem ht]; exact List.getElem_mem _
    have hti := hx _ (List.mem_cons_of_mem _ hm)
    rw [code9, List.getD_cons_succ, List.getD_cons_succ, code9_getD t _ i (fun x hx' => by have := hx x (List.mem_cons_of_mem _ hx'); split <;> simpa using this) ht, List.take_succ_cons, List.count_cons]
    generalize t.getD i 0 = y at hti ⊢
    by_cases hy : 0 < y
    · rw [if_pos hy, if_pos hy]
      by_cases h0 : 0 < n
      · rw [if_pos h0, getD_set9 _ _ _ _ (by omega)]
        by_cases he : n = y
        · rw [if_pos (by omega), if_pos (by simpa using he), he]; omega
        · rw [if_neg (by omega), if_neg (by simpa using he)]; omega
      · rw [if_neg h0, if_neg (by simp; omega)]; omega
    · rw [if_neg hy, if_neg hy]
theorem codesF_getD {l : List Int} (h : mayF l = 0) (i : Nat) (hi : i < l.length) : (codesF l).getD i 0 = if 0 < l.getD i 0 then fst9 (cntL l) (l.getD i 0).toNat + ((l.take i).count (l.getD i 0) : Nat) else 0 := by
  have hx := (may_zero h).2
  have hm : l.getD i 0 ∈ l := by rw [List.getD_eq_getElem?_getD, List.getElem?_eq_getElem hi]; exact List.getElem_mem _
  have hy := hx _ hm
  unfold codesF
  rw [if_pos h, code9_getD l _ i (fun x hx' => by rw [fstL_length]; have := hx x hx'; omega) hi, fstL_getD _ _ _ (by omega), if_pos (show (l.getD i 0).toNat < 16 by omega)]
theorem codesF_length {l : List Int} (h : mayF l = 0) : (codesF l).length = l.length := by
  unfold codesF; rw [if_pos h, code9_length]
theorem kraft_le {l : List Int} (h : mayF l = 0) : kraft l ≤ 32768 := by
  unfold mayF at h
  rw [chk_eq] at h
  have hc := may_cnt (by unfold mayF; rw [chk_eq]; exact h : mayF l = 0)
  have h1 := cntE_in hc
  have h0 := h1.1
  rw [if_neg (show ¬ 320 < l.length by omega), if_pos (List.all_eq_true.2 (fun x hx => by simpa using h1.2 x hx))] at h
  by_cases h2 : kraft l ≤ 32768
  · exact h2
  · rw [if_neg (show ¬ kraft l = 0 by omega), if_pos (show 32768 < kraft l by omega)] at h
    simp at h
def lft (cs : List Int) (n : Nat) : Int := 2 ^ n - fst9 cs n - cs.getD n 0
theorem lft_succ (cs : List Int) (n : Nat) : lft cs (n + 1) = 2 * lft cs n - cs.getD (n + 1) 0 := by
  unfold lft; rw [fst9, Int.pow_succ']; omega
theorem sumG_lft (cs : List Int) : ∀ (k n : Nat), n + k + 1 = cs.length → sumG (cs.drop (n + 1)) (lft cs n) = lft cs (n + k)
  | 0, n, h => by rw [List.drop_of_length_le (by omega), sumG]; rfl
  | k + 1, n, h => by
    rw [List.drop_eq_getElem_cons (by omega), sumG]
    have e : 2 * lft cs n - cs[n + 1] = lft cs (n + 1) := by
      rw [lft_succ, List.getD_eq_getElem?_getD, List.getElem?_eq_getElem (by omega), Option.getD_some]
    rw [e, sumG_lft cs k (n + 1) (by omega), show n + 1 + k = n + (k + 1) by omega]
theorem lft_neg (cs : List Int) (hr : ∀ x ∈ cs, 0 ≤ x ∧ x ≤ 320) (n : Nat) (hn : n < 16) (hl : cs.length = 16) (h : lft cs n < 0) : ∀ k, n + k < 16 → lft cs (n + k) < 0
  | 0, _ => h
  | k + 1, hk => by
    have := lft_neg cs hr n hn hl h k (by omega)
    have hg := getD_rng9 hr (n + k + 1) (by omega)
    rw [show n + (k + 1) = n + k + 1 by omega, lft_succ]
    omega
theorem fst_room {l : List Int} (h : mayF l = 0) (n : Nat) (hn : n ≤ 15) : fst9 (cntL l) n + (cntL l).getD n 0 ≤ 2 ^ n := by
  have hc := may_cnt h
  have hs : sumG ((cntL l).drop 1) 1 = 32768 - kraft l := by
    have h1 := leftF_kraft hc
    have h2 := kraft_le h
    rw [if_pos h2] at h1
    rw [leftF, leftG_sum _ _ (fun c hc => (cntL_range l c (List.mem_of_mem_drop hc)).1) (by omega)] at h1
    split at h1 <;> omega
  have h0 : lft (cntL l) 0 = 1 := by unfold lft; rw [cntL_getD hc]; simp [fst9]
  have h15 := sumG_lft (cntL l) 15 0 (by rw [cntL_length])
  rw [h0, hs] at h15
  have hk := kraft_le h
  by_cases h1 : lft (cntL l) n < 0
  · have h2 := lft_neg (cntL l) (cntL_range l) n (by omega) (cntL_length l) h1 (15 - n) (by omega)
    rw [show n + (15 - n) = 0 + 15 by omega] at h2
    omega
  · unfold lft at h1; omega
theorem fst_up (cs : List Int) (hr : ∀ n, 0 ≤ cs.getD n 0) (m : Nat) : ∀ k, 2 ^ k * (2 * (fst9 cs m + cs.getD m 0)) ≤ fst9 cs (m + 1 + k)
  | 0 => by rw [fst9]; simp
  | k + 1 => by
    have h := fst_up cs hr m k
    have h2 := hr (m + 1 + k)
    rw [show m + 1 + (k + 1) = (m + 1 + k) + 1 by omega, fst9, Int.pow_succ', Int.mul_assoc]
    omega
theorem cntL_nonneg (l : List Int) (n : Nat) : 0 ≤ (cntL l).getD n 0 := by
  rw [List.getD_eq_getElem?_getD]
  cases h : (cntL l)[n]? with
  | none => simp
  | some z => exact (cntL_range l z (List.mem_of_getElem? h)).1
theorem count_take_lt (l : List Int) (i : Nat) (hi : i < l.length) : (l.take i).count (l.getD i 0) < l.count (l.getD i 0) := by
  have e : l = l.take i ++ (l.getD i 0 :: l.drop (i + 1)) := by
    rw [List.getD_eq_getElem?_getD, List.getElem?_eq_getElem hi, Option.getD_some, ← List.drop_eq_getElem_cons hi, List.take_append_drop]
  have h2 : l.count (l.getD i 0) = (l.take i).count (l.getD i 0) + (l.getD i 0 :: l.drop (i + 1)).count (l.getD i 0) := by
    rw [← List.count_append, ← e]
  rw [List.count_cons, beq_self_eq_true, if_pos rfl] at h2
  omega
theorem code_between {l : List Int} (h : mayF l = 0) (i : Nat) (hi : i < l.length) (n : Nat) (hn : l.getD i 0 = (n : Int)) (h0 : 0 < n) :
    (codesF l).getD i 0 = fst9 (cntL l) n + ((l.take i).count (n : Int) : Nat) ∧ (codesF l).getD i 0 < fst9 (cntL l) n + (cntL l).getD n 0 ∧ n ≤ 15 ∧ (codesF l).getD i 0 < 2 ^ n ∧ 0 ≤ (codesF l).getD i 0 := by
  have hx := (may_zero h).2
  have hm : l.getD i 0 ∈ l := by rw [List.getD_eq_getElem?_getD, List.getElem?_eq_getElem hi]; exact List.getElem_mem _
  have hy := hx _ hm
  have hc := codesF_getD h i hi
  have hlt := count_take_lt l i hi
  rw [hn] at hc hy hlt
  rw [if_pos (by omega), Int.toNat_natCast] at hc
  have hg := cntL_getD (may_cnt h) n
  rw [if_neg (by omega)] at hg
  have hr := fst_room h n (by omega)
  have hf := fst9_small (cntL l) (cntL_range l) n (by omega)
  refine ⟨hc, by omega, by omega, by omega, by omega⟩
end Go.Proofs.YtghoifkaikddlaaGreat.Hand
namespace Go.Proofs.YtghoifkaikddlaaGreat.Hand
open Go.RowKit Go.Proofs.YtghoifkaikddlaaGreatW.PrintWords Go.Proofs.YtghoifkaikddlaaGreatW.PrintLast Go.Proofs.YtghoifkaikddlaaGreatW.PrintMore Go.Proofs.YtghoifkaikddlaaGreat.Num Go.Proofs.YtghoifkaikddlaaGreat.Bits
set_option linter.unusedVariables false
set_option linter.unusedSimpArgs false
theorem take_succ9 (l : List Int) (i : Nat) (hi : i < l.length) : l.take (i + 1) = l.take i ++ [l.getD i 0] := by
  rw [List.take_succ_eq_append_getElem hi, List.getD_eq_getElem?_getD, List.getElem?_eq_getElem hi]; rfl
theorem symP_len (l : List Int) (n : Nat) : ∀ j, j ≤ l.length → (symP l n j).length = (l.take j).count (n : Int)
  | 0, _ => by simp [symP]
  | j + 1, h => by
    rw [symP_succ, take_succ9 l j (by omega), List.count_append, ← symP_len l n j (by omega), List.count_singleton]
    by_cases he : l.getD j 0 = (n : Int)
    · rw [if_pos he, if_pos (by simpa using he), List.length_append, List.length_singleton]
    · rw [if_neg he, if_neg (by simpa using he)]; rfl
theorem symP_pre (l : List Int) (n i : Nat) : ∀ k, symP l n i <+: symP l n (i + k)
  | 0 => List.prefix_refl _
  | k + 1 => by
    refine (symP_pre l n i k).trans ?_
    rw [← Nat.add_assoc, symP_succ]
    split
    · exact List.prefix_append _ _
    · exact List.prefix_refl _
theorem prefix_get {α : Type} {a b : List α} (h : a <+: b) (k : Nat) (hk : k < a.length) : b[k]? = a[k]? := by
  obtain ⟨t, rfl⟩ := h
  rw [List.getElem?_append_left hk]
theorem symP_at (l : List Int) (n i : Nat) (hi : i < l.length) (hn : l.getD i 0 = (n : Int)) : (symP l n l.length)[(l.take i).count (n : Int)]? = some (i : Int) := by
  have h1 := symP_succ l n i
  rw [if_pos hn] at h1
  have hl := symP_len l n i (by omega)
  have hp := symP_pre l n (i + 1) (l.length - (i + 1))
  rw [show i + 1 + (l.length - (i + 1)) = l.length by omega] at hp
  rw [prefix_get hp _ (by rw [h1, List.length_append, hl, List.length_singleton]; omega), h1, List.getElem?_append_right (by omega), hl, Nat.sub_self]
  rfl
theorem symA_pre (l : List Int) (n : Nat) : ∀ k, symA l n <+: symA l (n + k)
  | 0 => List.prefix_refl _
  | k + 1 => by
    refine (symA_pre l n k).trans ?_
    rw [← Nat.add_assoc]
    cases h : n + k with
    | zero => exact List.prefix_refl _
    | succ m => rw [symA]; exact List.prefix_append _ _
theorem symA_len {l : List Int} (h : cntE l = 0) : ∀ n, ((symA l n).length : Int) = sumM (cntL l) n
  | 0 => rfl
  | 1 => rfl
  | n + 2 => by
    rw [symA, List.length_append, sumM, ← symA_len h (n + 1), symP_len l (n + 1) l.length (Nat.le_refl _), List.take_length, cntL_getD h, if_neg (by omega)]
    omega
theorem symA_at {l : List Int} (h : cntE l = 0) (n i : Nat) (h1 : 1 ≤ n) (h2 : n ≤ 15) (hi : i < l.length) (hn : l.getD i 0 = (n : Int)) : (symA l 16).getD (sumM (cntL l) n + ((l.take i).count (n : Int) : Nat)).toNat 0 = (i : Int) := by
  have hp := symA_pre l (n + 1) (15 - n)
  rw [show n + 1 + (15 - n) = 16 by omega] at hp
  have hl := symA_len h n
  have hs : symA l (n + 1) = symA l n ++ symP l n l.length := by
    obtain ⟨m, rfl⟩ : ∃ m, n = m + 1 := ⟨n - 1, by omega⟩
    rfl
  have ha := symP_at l n i hi hn
  have hlt := (List.getElem?_eq_some_iff.1 ha).1
  rw [show (sumM (cntL l) n + ((l.take i).count (n : Int) : Nat)).toNat = (symA l n).length + (l.take i).count (n : Int) by omega, List.getD_eq_getElem?_getD, prefix_get hp _ (by rw [hs, List.length_append]; omega), hs, List.getElem?_append_right (by omega), Nat.add_sub_cancel_left, ha]
  rfl
theorem sumM_le {l : List Int} (h : cntE l = 0) (n : Nat) (hn : n ≤ 15) : sumM (cntL l) (n + 1) ≤ (symA l 16).length := by
  have hp := (symA_pre l (n + 1) (15 - n)).length_le
  rw [show n + 1 + (15 - n) = 16 by omega] at hp
  have := symA_len h (n + 1)
  omega
theorem countP_step (l : List Int) (n : Nat) : l.countP (fun x : Int => decide (1 ≤ x ∧ x ≤ ((n + 1 : Nat) : Int))) = l.countP (fun x : Int => decide (1 ≤ x ∧ x ≤ ((n : Nat) : Int))) + l.count ((n + 1 : Nat) : Int) := by
  induction l with
  | nil => rfl
  | cons a l ih =>
    rw [List.countP_cons, List.countP_cons, List.count_cons, ih]
    have e1 : (decide (1 ≤ a ∧ a ≤ ((n + 1 : Nat) : Int)) = true) = (1 ≤ a ∧ a ≤ ((n + 1 : Nat) : Int)) := by simp only [decide_eq_true_eq]
    have e2 : (decide (1 ≤ a ∧ a ≤ ((n : Nat) : Int)) = true) = (1 ≤ a ∧ a ≤ ((n : Nat) : Int)) := by simp only [decide_eq_true_eq]
    simp only [e1, e2, beq_iff_eq]
    repeat' split
    all_goals omega
theorem symA_count (l : List Int) : ∀ n, (symA l (n + 1)).length = l.countP (fun x : Int => decide (1 ≤ x ∧ x ≤ ((n : Nat) : Int)))
  | 0 => by
    show 0 = _
    rw [eq_comm, List.countP_eq_zero]
    intro a _
    simp; omega
  | n + 1 => by
    rw [symA, List.length_append, symA_count l n, symP_len l (n + 1) l.length (Nat.le_refl _), List.take_length, countP_step]
theorem symA_small (l : List Int) : (symA l 16).length ≤ l.length := by
  rw [symA_count]; exact List.countP_le_length
theorem lgP_eq (l : List Int) (g : Int) (n : Nat) : lgP g l n l.length = if l.count (n : Int) = 0 then g else n := by
  have h := symP_len l n l.length (Nat.le_refl _)
  rw [List.take_length] at h
  unfold lgP
  by_cases h1 : symP l n l.length = []
  · rw [if_pos h1, if_pos (by rw [← h, h1]; rfl)]
  · rw [if_neg h1, if_neg (by rw [← h]; exact fun h2 => h1 (List.length_eq_zero_iff.1 h2))]
theorem lgA_le (l : List Int) : ∀ n, 0 ≤ lgA l (n + 1) ∧ lgA l (n + 1) ≤ n
  | 0 => by simp [lgA]
  | n + 1 => by
    have h := lgA_le l n
    rw [lgA, lgP_eq]
    split <;> omega
theorem lgA_ge (l : List Int) : ∀ n k : Nat, 1 ≤ k → k ≤ n → (k : Int) ∈ l → (k : Int) ≤ lgA l (n + 1)
  | 0, k, h1, h2, _ => by omega
  | n + 1, k, h1, h2, hm => by
    rw [lgA, lgP_eq]
    by_cases hk : k = n + 1
    · subst hk
      rw [if_neg (by have := List.count_pos_iff.2 hm; omega)]
      exact Int.le_refl _
    · have := lgA_ge l n k h1 (by omega) hm
      have h3 := lgA_le l n
      split
      · exact this
      · omega
theorem rd_back {l : List Int} (h : mayF l = 0) (s : ByteArray) (i N : Nat) (hi : i < l.length) (hN : l.getD i 0 = (N : Int)) (h0 : 0 < N) (lg : Nat) (hlg : lgA l 16 = (lg : Int)) :
    ∀ (m d n : Nat) (code first at_ : Int) (p : Nat), n + m = N → 1 ≤ n → m < d → p + (m + 1) ≤ 8 * s.size → (∀ k, k ≤ m → val s (p + k) 1 = (codesF l).getD i 0 / 2 ^ (m - k) % 2) → code = (codesF l).getD i 0 / 2 ^ (m + 1) → first * 2 = fst9 (cntL l) n → at_ = sumM (cntL l) n →
      rdT s (cntL l) (symA l 16) lg d n code first at_ p = ((i : Int), 0, p + (m + 1))
  | m, 0, _, _, _, _, _, _, _, hd, _, _, _, _, _ => absurd hd (Nat.not_lt_zero _)
  | m, d + 1, n, code, first, at_, p, hnm, hn1, hd, hp, hb, hc, hf, ha => by
    obtain ⟨c1, c2, c3, c4, c5⟩ := code_between h i hi N hN h0
    have hmem : l.getD i 0 ∈ l := by rw [List.getD_eq_getElem?_getD, List.getElem?_eq_getElem hi]; exact List.getElem_mem _
    rw [hN] at hmem
    have hge : (N : Int) ≤ lgA l 16 := lgA_ge l 15 N (by omega) (by omega) hmem
    rw [rdT, if_pos (by omega), if_pos (by omega)]
    have hb0 := hb 0 (by omega)
    rw [Nat.add_zero, Nat.sub_zero] at hb0
    rw [hb0, hc]
    have hdiv : 2 * ((codesF l).getD i 0 / 2 ^ (m + 1)) + (codesF l).getD i 0 / 2 ^ m % 2 = (codesF l).getD i 0 / 2 ^ m := by
      rw [Int.pow_succ, ← Int.ediv_ediv_of_nonneg (Int.le_of_lt (pow_pos' m))]
      omega
    rw [hdiv]
    have hx : (codesF l).getD i 0 / 2 ^ 0 = (codesF l).getD i 0 := by simp
    cases m with
    | zero =>
      obtain rfl : n = N := by omega
      have hg := cntL_getD (may_cnt h) n
      rw [hx, if_neg (by omega)]
      have hs := symA_at (may_cnt h) n i hn1 c3 hi hN
      rw [show at_ + (codesF l).getD i 0 - first * 2 = sumM (cntL l) n + ((l.take i).count (n : Int) : Nat) by omega, hs]
    | succ m =>
      have hup := fst_up (cntL l) (cntL_nonneg l) n m
      rw [show n + 1 + m = N by omega] at hup
      have hge2 : fst9 (cntL l) n + (cntL l).getD n 0 ≤ (codesF l).getD i 0 / 2 ^ (m + 1) := by
        refine (Int.le_ediv_iff_mul_le (pow_pos' (m + 1))).2 ?_
        rw [Int.pow_succ, Int.mul_comm]
        rw [show (2 : Int) ^ m * 2 * (fst9 (cntL l) n + (cntL l).getD n 0) = 2 ^ m * (2 * (fst9 (cntL l) n + (cntL l).getD n 0)) by rw [Int.mul_assoc]]
        omega
      rw [if_pos (by omega), rd_back h s i N hi hN h0 lg hlg m d (n + 1) _ _ _ (p + 1) (by omega) (by omega) (by omega) (by omega) (fun k hk => ?_) rfl (by rw [fst9]; omega) (by rw [sumM_succ _ n hn1]; omega)]
      · rw [show p + 1 + (m + 1) = p + (m + 1 + 1) by omega]
      · have := hb (k + 1) (by omega)
        rw [show p + 1 + k = p + (k + 1) by omega, this, show m + 1 - (k + 1) = m - k by omega]
theorem rd_back0 {l : List Int} (h : mayF l = 0) (s : ByteArray) (i N : Nat) (hi : i < l.length) (hN : l.getD i 0 = (N : Int)) (h0 : 0 < N) (lg : Nat) (hlg : lgA l 16 = (lg : Int)) (p : Nat) (hp : p + N ≤ 8 * s.size)
    (hb : ∀ k, k < N → val s (p + k) 1 = (revB ((codesF l).getD i 0) N).getD k 0) : rdT s (cntL l) (symA l 16) lg 16 1 0 0 0 p = ((i : Int), 0, p + N) := by
  obtain ⟨c1, c2, c3, c4, c5⟩ := code_between h i hi N hN h0
  have hr : ∀ (c : Int) (N k : Nat), k < N → (revB c N).getD k 0 = c / 2 ^ (N - 1 - k) % 2 := fun c N => by
    induction N with
    | zero => intro k hk; omega
    | succ N ih =>
      intro k hk
      rw [revB]
      cases k with
      | zero => rw [List.getD_cons_zero]; simp
      | succ k => rw [List.getD_cons_succ, ih k (by omega), show N + 1 - 1 - (k + 1) = N - 1 - k by omega]
  obtain ⟨m, rfl⟩ : ∃ m, N = m + 1 := ⟨N - 1, by omega⟩
  refine rd_back h s i (m + 1) hi hN h0 lg hlg m 16 1 0 0 0 p (by omega) (by omega) (by omega) hp (fun k hk => ?_) (Int.ediv_eq_zero_of_lt c5 c4).symm (by rw [fst9, fst9, cntL_getD (may_cnt h)]; rfl) rfl
  rw [hb k (by omega), hr _ _ k (by omega)]
  rfl
theorem lgA_nat (l : List Int) : ∃ g : Nat, lgA l 16 = (g : Int) ∧ g ≤ 15 := by
  have h : 0 ≤ lgA l 16 ∧ lgA l 16 ≤ 15 := lgA_le l 15
  obtain ⟨g, hg⟩ := Int.eq_ofNat_of_zero_le h.1
  exact ⟨g, hg, by omega⟩
theorem rdT_le (s : ByteArray) (many syms : List Int) (lg : Nat) : ∀ (d n : Nat) (code first at_ : Int) (p : Nat), p ≤ 8 * s.size → p ≤ (rdT s many syms lg d n code first at_ p).2.2 ∧ (rdT s many syms lg d n code first at_ p).2.2 ≤ 8 * s.size
  | 0, n, code, first, at_, p, h => by rw [rdT]; exact ⟨Nat.le_refl _, h⟩
  | d + 1, n, code, first, at_, p, h => by
    rw [rdT]
    split
    · split
      · split
        · have := rdT_le s many syms lg d (n + 1) (2 * code + val s p 1) (first * 2 + many.getD n 0) (at_ + many.getD n 0) (p + 1) (by omega)
          omega
        · dsimp only; omega
      · dsimp only; omega
    · dsimp only; omega
def rdS (s : ByteArray) (l : List Int) (p : Nat) : Int × Int × Nat := rdT s (cntL l) (symA l 16) (lgA l 16).toNat 16 1 0 0 0 p
theorem rdS_le (s : ByteArray) (l : List Int) (p : Nat) (h : p ≤ 8 * s.size) : (rdS s l p).2.2 ≤ 8 * s.size := (rdT_le s _ _ _ _ _ _ _ _ p h).2
end Go.Proofs.YtghoifkaikddlaaGreat.Hand
namespace Go.Proofs.YtghoifkaikddlaaGreat.Hand
open Go.RowKit Go.Proofs.YtghoifkaikddlaaGreatW.PrintWords Go.Proofs.YtghoifkaikddlaaGreatW.PrintLast Go.Proofs.YtghoifkaikddlaaGreatW.PrintMore Go.Proofs.YtghoifkaikddlaaGreat.Num Go.Proofs.YtghoifkaikddlaaGreat.Bits
set_option linter.unusedVariables false
set_option linter.unusedSimpArgs false
theorem TreeAt.below {w w1 : World} {B tb : Nat} {ls cs many syms : List Int} {lg : Int} (hT : TreeAt w B tb ls cs many syms lg) (hb : Below w.heap.size w w1) : TreeAt w1 B tb ls cs many syms lg := by
  obtain ⟨⟨vl, vc, vs, h, h1, h2, h3⟩, hm⟩ := hT
  exact ⟨⟨vl, vc, vs, blk_below h hb, h1.below hb, h2.below hb, h3.below hb⟩, hm⟩
theorem TreeAt.drawn {w w1 : World} {B tb : Nat} {ls cs many syms : List Int} {lg : Int} (hT : TreeAt w B tb ls cs many syms lg) (hd : Drawn0 w w1) : TreeAt w1 B tb ls cs many syms lg := by
  obtain ⟨n, rfl⟩ := hd.out; exact ⟨hT.open_, hT.ml⟩
theorem TreeAt.lower {w : World} {B B' tb : Nat} {ls cs many syms : List Int} {lg : Int} (hT : TreeAt w B tb ls cs many syms lg) (hb : B' ≤ B) : TreeAt w B' tb ls cs many syms lg := by
  obtain ⟨⟨vl, vc, vs, h, h1, h2, h3⟩, hm⟩ := hT
  exact ⟨⟨vl, vc, vs, h, h1.lower hb, h2.lower hb, h3.lower hb⟩, hm⟩
def Tr (w : World) (B tb : Nat) (l : List Int) : Prop := TreeAt w B tb l (codesF l) (cntL l) (symA l 16) (lgA l 16)
theorem tread_calls (w : World) (B tb g : Nat) (l : List Int) (s : ByteArray) (p : Nat) (hm : mayF l = 0) (hT : Tr w B tb l) (hR : RdAt w g s p) (hs : s.size ≤ 1000000) :
    Calls Tryz.prog 180 #[.pointer (some ⟨tb, 0, none⟩), .pointer (some ⟨g, 0, none⟩)] w fun e w' =>
      e = .returned (.tuple #[.int .i64 (rdS s l p).1, .int .i64 (rdS s l p).2.1]) ∧ RdAt w' g s (rdS s l p).2.2 ∧ Fr w w' (· = g) := by
  obtain ⟨lg, hlg, h15⟩ := lgA_nat l
  have hl := (may_zero hm).1
  have hsy := symA_small l
  unfold Tr at hT
  rw [hlg] at hT
  unfold rdS
  rw [hlg, Int.toNat_natCast]
  exact read_calls w B tb g l (codesF l) (cntL l) (symA l 16) lg s p hT hR hs h15 (cntL_range l) (fun n hn => sumM_le (may_cnt hm) n (by omega)) (by omega)
end Go.Proofs.YtghoifkaikddlaaGreat.Hand
namespace Go.Proofs.YtghoifkaikddlaaGreat.Hand
open Go.RowKit Go.Proofs.YtghoifkaikddlaaGreatW.PrintWords Go.Proofs.YtghoifkaikddlaaGreatW.PrintLast Go.Proofs.YtghoifkaikddlaaGreatW.PrintMore Go.Proofs.YtghoifkaikddlaaGreat.Num Go.Proofs.YtghoifkaikddlaaGreat.Bits
set_option linter.unusedVariables false
set_option linter.unusedSimpArgs false
inductive Res (α : Type) where
  | bad (e : Int) : Res α
  | ok (a : α) (p : Nat) (o : List Int) : Res α
def RM (α : Type) : Type := ByteArray → Int → Nat → List Int → Res α
def RM.bind {α β : Type} (f : RM α) (g : α → RM β) : RM β := fun s m p o => match f s m p o with
  | .bad e => .bad e
  | .ok a p' o' => g a s m p' o'
def RM.ret {α : Type} (a : α) : RM α := fun _ _ p o => .ok a p o
def RM.err {α : Type} (e : Int) : RM α := fun _ _ _ _ => .bad e
def getM (w : Nat) : RM Int := fun s _ p o => if p + w ≤ 8 * s.size then .ok (val s p w) (p + w) o else .bad 5
def symM (l : List Int) : RM Int := fun s _ p o => if (rdS s l p).2.1 = 0 then .ok (rdS s l p).1 (rdS s l p).2.2 o else .bad (rdS s l p).2.1
def alignM : RM Unit := fun _ _ p o => .ok () (8 * rdAt p) o
def bytesM (n : Nat) : RM (List Int) := fun s _ p o => if rdAt p + n ≤ s.size then .ok (bytesOf (s.extract (rdAt p) (rdAt p + n))) (8 * (rdAt p + n)) o else .bad 5
def lookM : RM (List Int) := fun _ _ p o => .ok o p o
def outM (xs : List Int) : RM Unit := fun _ m p o => if m - (o.length : Int) < (xs.length : Int) then .bad 7 else .ok () p (o ++ xs)
def Agree (s s' : ByteArray) : Prop := ∀ i, i < 8 * s.size → i < 8 * s'.size → bitA s i = bitA s' i
structure Good {α : Type} (f : RM α) : Prop where
  mono : ∀ {s m p o a p' o'}, p ≤ 8 * s.size → f s m p o = .ok a p' o' → p ≤ p' ∧ p' ≤ 8 * s.size ∧ o.length ≤ o'.length
  cut : ∀ {s m p o a p' o'} (s' : ByteArray), p ≤ 8 * s.size → f s m p o = .ok a p' o' → Agree s s' → p ≤ 8 * s'.size → f s' m p o = if p' ≤ 8 * s'.size then .ok a p' o' else .bad 5
  room : ∀ {s m p o a p' o'} (m' : Int), p ≤ 8 * s.size → f s m p o = .ok a p' o' → (o.length : Int) ≤ m → (o.length : Int) ≤ m' → (o'.length : Int) ≤ m ∧ f s m' p o = if (o'.length : Int) ≤ m' then .ok a p' o' else .bad 7
theorem Good.bind {α β : Type} {f : RM α} {g : α → RM β} (hf : Good f) (hg : ∀ a, Good (g a)) : Good (f.bind g) := by
  refine ⟨fun {s m p o a p' o'} hp h => ?_, fun {s m p o a p' o'} s' hp h hA hp' => ?_, fun {s m p o a p' o'} m' hp h hm hm' => ?_⟩
  all_goals
    unfold RM.bind at h
    try unfold RM.bind
    cases h1 : f s m p o with
    | bad e => rw [h1] at h; cases h
    | ok b q r =>
      rw [h1] at h
      dsimp only at h
      obtain ⟨m1, m2, m3⟩ := hf.mono hp h1
      obtain ⟨n1, n2, n3⟩ := (hg b).mono m2 h
      first
      | exact ⟨by omega, n2, by omega⟩
      | (rw [hf.cut s' hp h1 hA hp']
         by_cases hq : q ≤ 8 * s'.size
         · rw [if_pos hq]
           dsimp only
           exact (hg b).cut s' m2 h hA hq
         · rw [if_neg hq, if_neg (by omega)])
      | (obtain ⟨r1, r2⟩ := hf.room m' hp h1 hm hm'
         rw [r2]
         by_cases hq : (r.length : Int) ≤ m'
         · rw [if_pos hq]
           dsimp only
           exact (hg b).room m' m2 h r1 hq
         · rw [if_neg hq, if_neg (by omega)]
           exact ⟨((hg b).room m m2 h r1 r1).1, rfl⟩)
theorem Good.ret {α : Type} (a : α) : Good (RM.ret a) := by
  refine ⟨fun {s m p o a p' o'} hp h => ?_, fun {s m p o a p' o'} s' hp h hA hp' => ?_, fun {s m p o a p' o'} m' hp h hm hm' => ?_⟩
  all_goals
    unfold RM.ret at h
    try unfold RM.ret
    injection h with h1 h2 h3
    subst h1 h2 h3
  · exact ⟨Nat.le_refl _, hp, Nat.le_refl _⟩
  · rw [if_pos hp']
  · exact ⟨hm, by rw [if_pos hm']⟩
theorem Good.err {α : Type} (e : Int) : Good (RM.err e : RM α) := by
  refine ⟨fun {s m p o a p' o'} hp h => ?_, fun {s m p o a p' o'} s' hp h hA hp' => ?_, fun {s m p o a p' o'} m' hp h hm hm' => ?_⟩
  all_goals cases h
theorem Good.look : Good lookM := by
  refine ⟨fun {s m p o a p' o'} hp h => ?_, fun {s m p o a p' o'} s' hp h hA hp' => ?_, fun {s m p o a p' o'} m' hp h hm hm' => ?_⟩
  all_goals
    unfold lookM at h
    try unfold lookM
    injection h with h1 h2 h3
    subst h1 h2 h3
  · exact ⟨Nat.le_refl _, hp, Nat.le_refl _⟩
  · rw [if_pos hp']
  · exact ⟨hm, by rw [if_pos hm']⟩
theorem Good.out (xs : List Int) : Good (outM xs) := by
  refine ⟨fun {s m p o a p' o'} hp h => ?_, fun {s m p o a p' o'} s' hp h hA hp' => ?_, fun {s m p o a p' o'} m' hp h hm hm' => ?_⟩
  all_goals
    unfold outM at h
    try unfold outM
    split at h
    · cases h
    · rename_i hx
      injection h with h1 h2 h3
      subst h1 h2 h3
      first
      | exact ⟨Nat.le_refl _, hp, by simp⟩
      | (rw [if_neg hx, if_pos hp'])
      | (rw [List.length_append]
         refine ⟨by omega, ?_⟩
         by_cases hy : m' - (o.length : Int) < (xs.length : Int)
         · rw [if_pos hy, if_neg (by omega)]
         · rw [if_neg hy, if_pos (by omega)])
theorem Good.align : Good alignM := by
  refine ⟨fun {s m p o a p' o'} hp h => ?_, fun {s m p o a p' o'} s' hp h hA hp' => ?_, fun {s m p o a p' o'} m' hp h hm hm' => ?_⟩
  all_goals
    unfold alignM at h
    try unfold alignM
    injection h with h1 h2 h3
    subst h1 h2 h3
    unfold rdAt at *
  · exact ⟨by omega, by omega, Nat.le_refl _⟩
  · rw [if_pos (by omega)]
  · exact ⟨hm, by rw [if_pos hm']⟩
theorem val_agree {s s' : ByteArray} (h : Agree s s') (p : Nat) : ∀ w, p + w ≤ 8 * s.size → p + w ≤ 8 * s'.size → val s p w = val s' p w
  | 0, _, _ => rfl
  | w + 1, h1, h2 => by rw [val, val, val_agree h p w (by omega) (by omega), h (p + w) (by omega) (by omega)]
theorem Good.get (w : Nat) : Good (getM w) := by
  refine ⟨fun {s m p o a p' o'} hp h => ?_, fun {s m p o a p' o'} s' hp h hA hp' => ?_, fun {s m p o a p' o'} m' hp h hm hm' => ?_⟩
  all_goals
    unfold getM at h
    try unfold getM
    split at h
    · rename_i hx
      injection h with h1 h2 h3
      subst h1 h2 h3
      first
      | exact ⟨by omega, hx, Nat.le_refl _⟩
      | (by_cases hy : p + w ≤ 8 * s'.size
         · rw [if_pos hy, if_pos hy, val_agree hA p w hx hy]
         · rw [if_neg hy, if_neg hy])
      | (rw [if_pos hx, if_pos hm']; exact ⟨hm, rfl⟩)
    · cases h
theorem bt_agree {s s' : ByteArray} (h : Agree s s') (i : Nat) (h1 : i < s.size) (h2 : i < s'.size) : bt s (i : Int) = bt s' i := by
  rw [← val_byte, ← val_byte, val_agree h (8 * i) 8 (by omega) (by omega)]
theorem extract_agree {s s' : ByteArray} (h : Agree s s') (i n : Nat) (h1 : i + n ≤ s.size) (h2 : i + n ≤ s'.size) : s.extract i (i + n) = s'.extract i (i + n) := by
  apply bytes_ext
  refine List.ext_getElem? (fun j => ?_)
  rw [bytesOf_extract, bytesOf_extract, List.getElem?_drop, List.getElem?_drop, List.getElem?_take, List.getElem?_take, bytesOf_get?, bytesOf_get?]
  by_cases hj : i + j < i + n
  · rw [if_pos hj, if_pos hj, if_pos (by omega), if_pos (by omega), bt_agree h (i + j) (by omega) (by omega)]
  · rw [if_neg hj, if_neg hj]
theorem Good.bytes (n : Nat) : Good (bytesM n) := by
  refine ⟨fun {s m p o a p' o'} hp h => ?_, fun {s m p o a p' o'} s' hp h hA hp' => ?_, fun {s m p o a p' o'} m' hp h hm hm' => ?_⟩
  all_goals
    unfold bytesM at h
    try unfold bytesM
    split at h
    · rename_i hx
      injection h with h1 h2 h3
      subst h1 h2 h3
      first
      | exact ⟨by unfold rdAt; omega, by omega, Nat.le_refl _⟩
      | (by_cases hy : rdAt p + n ≤ s'.size
         · rw [if_pos hy, if_pos (by omega), extract_agree hA (rdAt p) n hx hy]
         · rw [if_neg hy, if_neg (by omega)])
      | (rw [if_pos hx, if_pos hm']; exact ⟨hm, rfl⟩)
    · cases h
theorem rdT_agree {s s' : ByteArray} (hA : Agree s s') (many syms : List Int) (lg : Nat) : ∀ (d n : Nat) (code first at_ : Int) (p : Nat) (k : Int) (q : Nat), p ≤ 8 * s.size → p ≤ 8 * s'.size → rdT s many syms lg d n code first at_ p = (k, 0, q) →
    p + 1 ≤ q ∧ q ≤ 8 * s.size ∧ (if q ≤ 8 * s'.size then rdT s' many syms lg d n code first at_ p = (k, 0, q) else (rdT s' many syms lg d n code first at_ p).2.1 = 5)
  | 0, n, code, first, at_, p, k, q, h1, h2, h => by rw [rdT] at h; injection h with _ h; injection h with h _; cases h
  | d + 1, n, code, first, at_, p, k, q, h1, h2, h => by
    rw [rdT] at h
    rw [rdT]
    by_cases hn : n ≤ lg
    · rw [if_pos hn] at h ⊢
      by_cases hp : p + 1 ≤ 8 * s.size
      · rw [if_pos hp] at h
        by_cases hp' : p + 1 ≤ 8 * s'.size
        · rw [if_pos hp', ← val_agree hA p 1 hp hp']
          generalize val s p 1 = b at h ⊢
          by_cases hm : many.getD n 0 ≤ 2 * code + b - first * 2
          · rw [if_pos hm] at h ⊢
            have := rdT_agree hA many syms lg d (n + 1) _ _ _ (p + 1) k q hp hp' h
            exact ⟨by omega, this.2⟩
          · rw [if_neg hm] at h ⊢
            injection h with h3 h4
            injection h4 with h4 h5
            subst h3 h5
            exact ⟨Nat.le_refl _, hp, by rw [if_pos hp']⟩
        · rw [if_neg hp']
          have hq : p + 1 ≤ q ∧ q ≤ 8 * s.size := by
            by_cases hm : many.getD n 0 ≤ 2 * code + val s p 1 - first * 2
            · rw [if_pos hm] at h
              have := rdT_le s many syms lg d (n + 1) (2 * code + val s p 1) (first * 2 + many.getD n 0) (at_ + many.getD n 0) (p + 1) hp
              rw [h] at this
              exact this
            · rw [if_neg hm] at h
              injection h with h3 h4
              injection h4 with h4 h5
              subst h5
              exact ⟨Nat.le_refl _, hp⟩
          exact ⟨hq.1, hq.2, by rw [if_neg (by omega)]⟩
      · rw [if_neg hp] at h; injection h with _ h; injection h with h _; cases h
    · rw [if_neg hn] at h; injection h with _ h; injection h with h _; cases h
theorem rdS_ok {s : ByteArray} {l : List Int} {p : Nat} (h : (rdS s l p).2.1 = 0) : rdS s l p = ((rdS s l p).1, 0, (rdS s l p).2.2) := by
  rw [← h]
theorem rdS_adv {s : ByteArray} {l : List Int} {p : Nat} (hp : p ≤ 8 * s.size) (h : (rdS s l p).2.1 = 0) : p + 1 ≤ (rdS s l p).2.2 :=
  (rdT_agree (s := s) (s' := s) (fun _ _ _ => rfl) _ _ _ _ _ _ _ _ _ _ _ hp hp (rdS_ok h)).1
theorem Good.sym (l : List Int) : Good (symM l) := by
  refine ⟨fun {s m p o a p' o'} hp h => ?_, fun {s m p o a p' o'} s' hp h hA hp' => ?_, fun {s m p o a p' o'} m' hp h hm hm' => ?_⟩
  all_goals
    unfold symM at h
    try unfold symM
    split at h
    · rename_i hx
      injection h with h1 h2 h3
      subst h1 h2 h3
      first
      | exact ⟨Nat.le_of_succ_le (rdS_adv hp hx), rdS_le s l p hp, Nat.le_refl _⟩
      | (have h3 := (rdT_agree hA _ _ _ _ _ _ _ _ _ _ _ hp hp' (rdS_ok hx)).2.2
         by_cases hy : (rdS s l p).2.2 ≤ 8 * s'.size
         · rw [if_pos hy] at h3 ⊢
           have h4 : rdS s' l p = ((rdS s l p).1, 0, (rdS s l p).2.2) := h3
           rw [h4, if_pos rfl]
         · rw [if_neg hy] at h3 ⊢
           have h4 : (rdS s' l p).2.1 = 5 := h3
           rw [if_neg (by omega), h4])
      | (rw [if_pos hx, if_pos hm']; exact ⟨hm, rfl⟩)
    · cases h
def lensT : List (Int × Nat) := [(3, 0), (4, 0), (5, 0), (6, 0), (7, 0), (8, 0), (9, 0), (10, 0), (11, 1), (13, 1), (15, 1), (17, 1), (19, 2), (23, 2), (27, 2), (31, 2), (35, 3), (43, 3), (51, 3), (59, 3), (67, 4), (83, 4), (99, 4), (115, 4), (131, 5), (163, 5), (195, 5), (227, 5), (258, 0)]
def distT : List (Int × Nat) := [(1, 0), (2, 0), (3, 0), (4, 0), (5, 1), (7, 1), (9, 2), (13, 2), (17, 3), (25, 3), (33, 4), (49, 4), (65, 5), (97, 5), (129, 6), (193, 6), (257, 7), (385, 7), (513, 8), (769, 8), (1025, 9), (1537, 9), (2049, 10), (3073, 10), (4097, 11), (6145, 11), (8193, 12), (12289, 12), (16385, 13), (24577, 13)]
def orderT : List Nat := [16, 17, 18, 0, 8, 7, 9, 6, 10, 5, 11, 4, 12, 3, 13, 2, 14, 1, 15]
def toldM (x : Int × Nat) : RM Int := (getM x.2).bind fun n => RM.ret (x.1 + n)
def copyL (back : Nat) : Nat → List Int → List Int
  | 0, _ => []
  | n + 1, o => o.getD (o.length - back) 0 :: copyL back n (o ++ [o.getD (o.length - back) 0])
theorem copyL_length (back : Nat) : ∀ n o, (copyL back n o).length = n
  | 0, _ => rfl
  | n + 1, o => by rw [copyL, List.length_cons, copyL_length back n]
def repeatM (sym : Nat) (far : List Int) : RM Unit :=
  (toldM (lensT.getD sym (0, 0))).bind fun n => (symM far).bind fun d => if 30 ≤ d then RM.err 4 else
    (toldM (distT.getD d.toNat (0, 0))).bind fun back => lookM.bind fun o => if (o.length : Int) < back then RM.err 3 else outM (copyL back.toNat n.toNat o)
def codedM (near far : List Int) : Nat → RM Unit
  | 0 => RM.err 99
  | k + 1 => (symM near).bind fun n => if n = 256 then RM.ret () else if 286 ≤ n then RM.err 4 else
      if 256 < n then (repeatM (n - 257).toNat far).bind fun _ => codedM near far k else (outM [n % 256]).bind fun _ => codedM near far k
def storedM : RM Unit := alignM.bind fun _ => (getM 16).bind fun n => (getM 16).bind fun m => if n + m ≠ 65535 then RM.err 4 else (bytesM n.toNat).bind fun xs => outM xs
def fixLit : List Int := List.replicate 144 8 ++ List.replicate 112 9 ++ List.replicate 24 7 ++ List.replicate 8 8
def fixDist : List Int := List.replicate 32 5
def headsL (many : Nat) : Nat → Nat → List Int → RM (List Int)
  | 0, _, l => RM.ret l
  | j + 1, i, l => if i < many then (getM 3).bind fun n => headsL many j (i + 1) (l.set (orderT.getD i 0) n) else RM.ret l
def headsM (many : Nat) : RM (List Int) := (headsL many 19 0 (List.replicate 19 0)).bind fun l => if chkF l ≠ 0 then RM.err 4 else RM.ret l
def rowM (l : List Int) (many : Nat) : Nat → List Int → RM (List Int)
  | 0, row => RM.err 99
  | k + 1, row => if row.length < many then (symM l).bind fun n =>
      if n = 16 ∧ row = [] then RM.err 4 else
      (toldM (if n = 16 then (3, 2) else if n = 17 then (3, 3) else if n = 18 then (11, 7) else (1, 0))).bind fun times =>
        if (many : Int) - row.length < times then RM.err 4 else
        rowM l many k (row ++ List.replicate times.toNat (if n = 16 then row.getD (row.length - 1) 0 else if n = 17 ∨ n = 18 then 0 else n))
    else RM.ret row
def sumL : List Int → Int
  | [] => 0
  | x :: t => x + sumL t
def reachB (l : List Int) : Bool := decide (sumL l < 2) || decide (chkF l = 0)
def bigK : Nat := 80000001
def ownM : RM Unit := (getM 5).bind fun a => (getM 5).bind fun b => (getM 4).bind fun c => if 29 < a ∨ 29 < b then RM.err 4 else
  (headsM (c.toNat + 4)).bind fun l => (rowM l (a.toNat + b.toNat + 258) 400 []).bind fun row =>
    if chkF (row.take (a.toNat + 257)) ≠ 0 ∨ row.getD 256 0 = 0 ∨ reachB (row.drop (a.toNat + 257)) = false then RM.err 4 else codedM (row.take (a.toNat + 257)) (row.drop (a.toNat + 257)) bigK
def blockM : RM Int := (getM 1).bind fun last => (getM 2).bind fun kind => (if kind = 0 then storedM else if kind = 1 then codedM fixLit fixDist bigK else if kind = 2 then ownM else RM.err 4).bind fun _ => RM.ret last
def infM : Nat → RM Unit
  | 0 => RM.err 99
  | k + 1 => blockM.bind fun last => if last = 1 then RM.ret () else infM k
def inflF (s : ByteArray) (m : Int) : ByteArray × Int × Int := if m < 0 then (⟨#[]⟩, 0, 2) else match infM bigK s m 0 [] with
  | .bad e => (⟨#[]⟩, 0, e)
  | .ok _ p o => (strOfNums o, (rdAt p : Int), 0)
theorem Good.ite {α : Type} {c : Prop} [Decidable c] {f g : RM α} (hf : Good f) (hg : Good g) : Good (if c then f else g) := by split <;> assumption
theorem Good.told (x : Int × Nat) : Good (toldM x) := (Good.get _).bind fun _ => Good.ret _
theorem Good.repeat_ (sym : Nat) (far : List Int) : Good (repeatM sym far) :=
  (Good.told _).bind fun _ => (Good.sym _).bind fun _ => Good.ite (Good.err _) ((Good.told _).bind fun _ => Good.look.bind fun _ => Good.ite (Good.err _) (Good.out _))
theorem Good.coded (near far : List Int) : ∀ k, Good (codedM near far k)
  | 0 => Good.err _
  | k + 1 => (Good.sym _).bind fun _ => Good.ite (Good.ret _) (Good.ite (Good.err _) (Good.ite ((Good.repeat_ _ _).bind fun _ => Good.coded near far k) ((Good.out _).bind fun _ => Good.coded near far k)))
theorem Good.stored : Good storedM := Good.align.bind fun _ => (Good.get _).bind fun _ => (Good.get _).bind fun _ => Good.ite (Good.err _) ((Good.bytes _).bind fun _ => Good.out _)
theorem Good.headsL (many : Nat) : ∀ j i l, Good (headsL many j i l)
  | 0, _, _ => Good.ret _
  | j + 1, i, l => Good.ite ((Good.get _).bind fun _ => Good.headsL many j _ _) (Good.ret _)
theorem Good.heads (many : Nat) : Good (headsM many) := (Good.headsL _ _ _ _).bind fun _ => Good.ite (Good.err _) (Good.ret _)
theorem Good.row (l : List Int) (many : Nat) : ∀ k row, Good (rowM l many k row)
  | 0, _ => Good.err _
  | k + 1, row => Good.ite ((Good.sym _).bind fun _ => Good.ite (Good.err _) ((Good.told _).bind fun _ => Good.ite (Good.err _) (Good.row l many k _))) (Good.ret _)
theorem Good.own : Good ownM :=
  (Good.get _).bind fun _ => (Good.get _).bind fun _ => (Good.get _).bind fun _ => Good.ite (Good.err _) ((Good.heads _).bind fun _ => (Good.row _ _ _ _).bind fun _ => Good.ite (Good.err _) (Good.coded _ _ _))
theorem Good.block : Good blockM := (Good.get _).bind fun _ => (Good.get _).bind fun _ => (Good.ite Good.stored (Good.ite (Good.coded _ _ _) (Good.ite Good.own (Good.err _)))).bind fun _ => Good.ret _
theorem Good.inf : ∀ k, Good (infM k)
  | 0 => Good.err _
  | k + 1 => Good.block.bind fun _ => Good.ite (Good.ret _) (Good.inf k)
structure NZ {α : Type} (f : RM α) : Prop where
  nz : ∀ {s m p o c}, f s m p o = .bad c → c ≠ 0
theorem NZ.bind {α β : Type} {f : RM α} {g : α → RM β} (hf : NZ f) (hg : ∀ a, NZ (g a)) : NZ (f.bind g) := ⟨fun {s m p o c} h => by
  unfold RM.bind at h
  cases h1 : f s m p o with
  | bad e => rw [h1] at h; injection h with h; subst h; exact hf.nz h1
  | ok a q r => rw [h1] at h; exact (hg a).nz h⟩
theorem NZ.ret {α : Type} (a : α) : NZ (RM.ret a) := ⟨fun h => by cases h⟩
theorem NZ.err {α : Type} (e : Int) (he : e ≠ 0) : NZ (RM.err e : RM α) := ⟨fun h => by injection h with h; subst h; exact he⟩
theorem NZ.look : NZ lookM := ⟨fun h => by cases h⟩
theorem NZ.align : NZ alignM := ⟨fun h => by cases h⟩
theorem NZ.out (xs : List Int) : NZ (outM xs) := ⟨fun h => by unfold outM at h; split at h; injection h with h; subst h; decide; cases h⟩
theorem NZ.get (w : Nat) : NZ (getM w) := ⟨fun h => by unfold getM at h; split at h; cases h; injection h with h; subst h; decide⟩
theorem NZ.bytes (n : Nat) : NZ (bytesM n) := ⟨fun h => by unfold bytesM at h; split at h; cases h; injection h with h; subst h; decide⟩
theorem NZ.sym (l : List Int) : NZ (symM l) := ⟨fun h => by
  unfold symM at h
  split at h
  · cases h
  · rename_i hx; injection h with h; subst h; exact hx⟩
theorem NZ.ite {α : Type} {c : Prop} [Decidable c] {f g : RM α} (hf : NZ f) (hg : NZ g) : NZ (if c then f else g) := by split <;> assumption
theorem NZ.told (x : Int × Nat) : NZ (toldM x) := (NZ.get _).bind fun _ => NZ.ret _
theorem NZ.repeat_ (sym : Nat) (far : List Int) : NZ (repeatM sym far) :=
  (NZ.told _).bind fun _ => (NZ.sym _).bind fun _ => NZ.ite (NZ.err _ (by decide)) ((NZ.told _).bind fun _ => NZ.look.bind fun _ => NZ.ite (NZ.err _ (by decide)) (NZ.out _))
theorem NZ.coded (near far : List Int) : ∀ k, NZ (codedM near far k)
  | 0 => NZ.err _ (by decide)
  | k + 1 => (NZ.sym _).bind fun _ => NZ.ite (NZ.ret _) (NZ.ite (NZ.err _ (by decide)) (NZ.ite ((NZ.repeat_ _ _).bind fun _ => NZ.coded near far k) ((NZ.out _).bind fun _ => NZ.coded near far k)))
theorem NZ.stored : NZ storedM := NZ.align.bind fun _ => (NZ.get _).bind fun _ => (NZ.get _).bind fun _ => NZ.ite (NZ.err _ (by decide)) ((NZ.bytes _).bind fun _ => NZ.out _)
theorem NZ.headsL (many : Nat) : ∀ j i l, NZ (headsL many j i l)
  | 0, _, _ => NZ.ret _
  | j + 1, i, l => NZ.ite ((NZ.get _).bind fun _ => NZ.headsL many j _ _) (NZ.ret _)
theorem NZ.heads (many : Nat) : NZ (headsM many) := (NZ.headsL _ _ _ _).bind fun _ => NZ.ite (NZ.err _ (by decide)) (NZ.ret _)
theorem NZ.row (l : List Int) (many : Nat) : ∀ k row, NZ (rowM l many k row)
  | 0, _ => NZ.err _ (by decide)
  | k + 1, row => NZ.ite ((NZ.sym _).bind fun _ => NZ.ite (NZ.err _ (by decide)) ((NZ.told _).bind fun _ => NZ.ite (NZ.err _ (by decide)) (NZ.row l many k _))) (NZ.ret _)
theorem NZ.own : NZ ownM :=
  (NZ.get _).bind fun _ => (NZ.get _).bind fun _ => (NZ.get _).bind fun _ => NZ.ite (NZ.err _ (by decide)) ((NZ.heads _).bind fun _ => (NZ.row _ _ _ _).bind fun _ => NZ.ite (NZ.err _ (by decide)) (NZ.coded _ _ _))
theorem NZ.block : NZ blockM := (NZ.get _).bind fun _ => (NZ.get _).bind fun _ => (NZ.ite NZ.stored (NZ.ite (NZ.coded _ _ _) (NZ.ite NZ.own (NZ.err _ (by decide))))).bind fun _ => NZ.ret _
end Go.Proofs.YtghoifkaikddlaaGreat.Hand
