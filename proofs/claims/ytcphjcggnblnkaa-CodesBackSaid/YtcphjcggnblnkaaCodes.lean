/- Codes: what the counts, the first numbers, the codes and the symbols are, in plain numbers. -/
import Derived.Test.YtcphjcggnblnkaaHand09n
import Derived.Handy
namespace Go.Proofs.Ytcphjcggnblnkaa.Hand
open Go.RowKit Go.Proofs.YtcphjcggnblnkaaW.PrintWords Go.Proofs.YtcphjcggnblnkaaW.PrintLast Go.Proofs.YtcphjcggnblnkaaW.PrintMore Go.Proofs.Ytcphjcggnblnkaa.Num
set_option linter.unusedVariables false
set_option linter.unusedSimpArgs false
theorem getD_set9 (cs : List Int) (i j : Nat) (v : Int) (hi : i < cs.length) : (cs.set i v).getD j 0 = if i = j then v else cs.getD j 0 := by
  rw [List.getD_eq_getElem?_getD, List.getD_eq_getElem?_getD, List.getElem?_set]
  by_cases h : i = j
  · subst h; simp [hi]
  · simp [h]
theorem cntS_getD : ∀ (l cs : List Int) (k : Nat), (∀ x ∈ l, 0 ≤ x ∧ x < cs.length) → (cntS cs l).getD k 0 = cs.getD k 0 + (l.count (k : Int) : Nat)
  | [], cs, k, _ => by simp [cntS]
  | n :: t, cs, k, h => by
    have hn := h n (List.mem_cons_self ..)
    rw [cntS, cntS_getD t _ k (fun x hx => by rw [List.length_set]; exact h x (List.mem_cons_of_mem _ hx)), getD_set9 _ _ _ _ (by omega), List.count_cons]
    by_cases hk : n = (k : Int)
    · rw [if_pos (by omega), if_pos (by simpa using hk)]
      rw [show n.toNat = k by omega]
      omega
    · rw [if_neg (by omega), if_neg (by simpa using hk)]
      omega
theorem cntE_in {l : List Int} (h : cntE l = 0) : l.length ≤ 320 ∧ ∀ x ∈ l, 0 ≤ x ∧ x ≤ 15 := by
  unfold cntE at h
  by_cases h1 : 320 < l.length
  · rw [if_pos h1] at h; cases h
  · rw [if_neg h1] at h
    refine ⟨by omega, ?_⟩
    split at h
    · rename_i h2
      intro x hx
      simpa using List.all_eq_true.1 h2 x hx
    · cases h
theorem zeros_getD (k : Nat) : zeros.getD k 0 = 0 := by
  rw [List.getD_eq_getElem?_getD, zeros, List.getElem?_replicate]; split <;> rfl
theorem cntL_getD {l : List Int} (h : cntE l = 0) (k : Nat) : (cntL l).getD k 0 = if k = 0 then 0 else (l.count (k : Int) : Nat) := by
  have hl : (cntS zeros l).length = 16 := by rw [cntS_length]; rfl
  unfold cntL
  rw [if_pos h, getD_set9 _ _ _ _ (by omega)]
  by_cases hk : k = 0
  · subst hk; rfl
  · rw [if_neg (Ne.symm hk), if_neg hk, cntS_getD l zeros k (fun x hx => by have := (cntE_in h).2 x hx; rw [show (zeros.length : Int) = 16 from rfl]; omega), zeros_getD]
    omega
theorem may_cnt {l : List Int} (h : mayF l = 0) : cntE l = 0 := by
  rcases cntE_cases l with h0 | h0 | h0
  · exact h0
  · unfold mayF chkF at h; simp [h0] at h
  · unfold mayF chkF at h; simp [h0] at h
/-! What is left. -/
def sumG : List Int → Int → Int
  | [], x => x
  | c :: t, x => sumG t (2 * x - c)
theorem sumG_neg : ∀ (t : List Int) (x : Int), (∀ c ∈ t, 0 ≤ c) → x < 0 → sumG t x < 0
  | [], x, _, h => h
  | c :: t, x, hc, h => sumG_neg t _ (fun d hd => hc d (List.mem_cons_of_mem _ hd)) (by have := hc c (List.mem_cons_self ..); omega)
theorem leftG_sum : ∀ (t : List Int) (x : Int), (∀ c ∈ t, 0 ≤ c) → 0 ≤ x → leftG t x = if sumG t x < 0 then -1 else sumG t x
  | [], x, _, h => by rw [leftG, sumG, if_neg (by omega)]
  | c :: t, x, hc, h => by
    have hc' : ∀ d ∈ t, 0 ≤ d := fun d hd => hc d (List.mem_cons_of_mem _ hd)
    rw [leftG, sumG]
    by_cases h1 : 2 * x - c < 0
    · rw [if_pos h1, if_pos (sumG_neg t _ hc' h1)]
    · rw [if_neg h1, leftG_sum t _ hc' (by omega)]
theorem sumG_sub : ∀ (t : List Int) (x y : Int), sumG t (x + y) = sumG t x + y * 2 ^ t.length
  | [], x, y => by simp [sumG]
  | c :: t, x, y => by
    rw [sumG, sumG, show 2 * (x + y) - c = 2 * x - c + 2 * y by omega, sumG_sub t, List.length_cons, Int.pow_succ']
    rw [show 2 * y * 2 ^ t.length = y * (2 * 2 ^ t.length) by rw [Int.mul_comm 2 y, Int.mul_assoc]]
theorem sumG_set : ∀ (t : List Int) (x : Int) (j : Nat), j < t.length → sumG (t.set j (t.getD j 0 + 1)) x = sumG t x - 2 ^ (t.length - 1 - j)
  | [], x, j, h => absurd h (Nat.not_lt_zero _)
  | c :: t, x, 0, h => by
    rw [List.set_cons_zero, sumG, sumG, List.getD_cons_zero, show 2 * x - (c + 1) = 2 * x - c + (-1) by omega, sumG_sub]
    simp
    omega
  | c :: t, x, j + 1, h => by
    rw [List.set_cons_succ, sumG, sumG, List.getD_cons_succ, sumG_set t _ j (by simpa using h), List.length_cons, show t.length + 1 - 1 - (j + 1) = t.length - 1 - j by omega]
/-- The sum of the lengths' parts, in parts of 2 to 15. -/
def part9 (n : Int) : Int := if 0 < n then 2 ^ (15 - n.toNat) else 0
def kraft : List Int → Int
  | [] => 0
  | n :: t => part9 n + kraft t
theorem part9_nonneg (n : Int) : 0 ≤ part9 n := by
  unfold part9; split
  · exact Int.le_of_lt (Int.pow_pos (by decide))
  · omega
theorem kraft_nonneg : ∀ l : List Int, 0 ≤ kraft l
  | [] => by simp [kraft]
  | n :: t => by have h1 := part9_nonneg n; have h2 := kraft_nonneg t; rw [kraft]; omega
theorem cntS_sum : ∀ (l cs : List Int), cs.length = 16 → (∀ x ∈ l, 0 ≤ x ∧ x ≤ 15) → sumG ((cntS cs l).drop 1) 1 = sumG (cs.drop 1) 1 - kraft l
  | [], cs, _, _ => by simp [cntS, kraft]
  | n :: t, cs, hl, h => by
    have hn := h n (List.mem_cons_self ..)
    rw [cntS, cntS_sum t _ (by rw [List.length_set]; exact hl) (fun x hx => h x (List.mem_cons_of_mem _ hx)), kraft, part9]
    obtain ⟨m, rfl⟩ := Int.eq_ofNat_of_zero_le hn.1
    rw [Int.toNat_natCast]
    match cs, hl with
    | c :: t', hl =>
      cases m with
      | zero => simp
      | succ m =>
        rw [if_pos (by omega), List.set_cons_succ, List.drop_one, List.tail_cons, List.drop_one, List.tail_cons, List.getD_cons_succ, sumG_set t' 1 m (by simp at hl; omega)]
        rw [show t'.length = 15 by simpa using hl, show 15 - 1 - m = 15 - (m + 1) by omega]
        omega
theorem leftF_kraft {l : List Int} (h : cntE l = 0) : leftF (cntL l) = if kraft l ≤ 32768 then 32768 - kraft l else -1 := by
  have hr := cntL_range l
  have hs : sumG ((cntL l).drop 1) 1 = 32768 - kraft l := by
    have h1 := cntS_sum l zeros rfl (cntE_in h).2
    have h2 : (cntL l).drop 1 = (cntS zeros l).drop 1 := by
      unfold cntL
      rw [if_pos h]
      have hl : (cntS zeros l).length = 16 := by rw [cntS_length]; rfl
      match cntS zeros l, hl with
      | c :: t, _ => rfl
    rw [h2, h1]
    rfl
  rw [leftF, leftG_sum _ _ (fun c hc => (hr c (List.mem_of_mem_drop hc)).1) (by omega), hs]
  by_cases h1 : kraft l ≤ 32768
  · rw [if_neg (by omega), if_pos h1]
  · rw [if_pos (by omega), if_neg h1]
theorem kraft_zero : ∀ (l : List Int), kraft l = 0 → ∀ x ∈ l, x ≤ 0
  | [], _, x, hx => absurd hx (List.not_mem_nil)
  | n :: t, h, x, hx => by
    have h1 := part9_nonneg n
    have h2 := kraft_nonneg t
    rw [kraft] at h
    rcases List.mem_cons.1 hx with rfl | hx
    · have h3 : part9 x = 0 := by omega
      unfold part9 at h3
      split at h3
      · have := pow_pos' (15 - x.toNat); omega
      · omega
    · exact kraft_zero t (by omega) x hx
theorem cntL_zeros {l : List Int} (h : cntE l = 0) : cntL l = zeros ↔ kraft l = 0 := by
  constructor
  · intro hz
    have h1 := leftF_kraft h
    rw [hz, show leftF zeros = 32768 from by decide] at h1
    have := kraft_nonneg l
    split at h1 <;> omega
  · intro hk
    have hx := kraft_zero l hk
    have hl := cntL_length l
    refine List.ext_getElem (by rw [hl]; rfl) (fun j h1 h2 => ?_)
    have h3 := cntL_getD h j
    rw [List.getD_eq_getElem?_getD, List.getElem?_eq_getElem h1, Option.getD_some] at h3
    rw [h3]
    have h4 : zeros[j] = 0 := by
      have := zeros_getD j
      rwa [List.getD_eq_getElem?_getD, List.getElem?_eq_getElem h2, Option.getD_some] at this
    rw [h4]
    split
    · rfl
    · rw [List.count_eq_zero_of_not_mem (fun hm => by have := hx _ hm; omega)]; rfl
theorem chk_eq (l : List Int) : chkF l = if 320 < l.length then 2 else if l.all (fun n => decide (0 ≤ n ∧ n ≤ 15)) then (if kraft l = 0 then 12 else if 32768 < kraft l then 7 else if kraft l < 32768 then 5 else 0) else 3 := by
  by_cases h : cntE l = 0
  · have hh := h
    unfold cntE at hh
    unfold chkF
    rw [if_neg (by simpa using h), leftF_kraft h]
    by_cases h1 : 320 < l.length
    · rw [if_pos h1] at hh; cases hh
    · rw [if_neg h1] at hh ⊢
      split at hh
      · rename_i h2
        rw [if_pos h2]
        by_cases h3 : kraft l = 0
        · rw [if_pos ((cntL_zeros h).2 h3), if_pos h3]
        · rw [if_neg (fun hz => h3 ((cntL_zeros h).1 hz)), if_neg h3]
          generalize kraft l = K
          by_cases h4 : K ≤ 32768
          · rw [if_pos h4]
            by_cases h5 : K < 32768
            · simp [h5, show ¬ 32768 < K by omega, show ¬ 32768 - K < 0 by omega]
            · simp [h5, show ¬ 32768 < K by omega, show ¬ 32768 - K < 0 by omega]
          · simp [h4, show 32768 < K by omega]
      · cases hh
  · unfold chkF
    rw [if_pos (by simpa using h)]
    unfold cntE at h ⊢
    by_cases h1 : 320 < l.length
    · rw [if_pos h1, if_pos h1]
    · rw [if_neg h1] at h
      rw [if_neg h1, if_neg h1]
      split at h
      · exact absurd rfl h
      · rename_i h2
        rw [if_neg h2, if_neg h2]
/-! The codes. -/
theorem code9_getD : ∀ (l nx : List Int) (i : Nat), (∀ x ∈ l, 0 ≤ x ∧ x < nx.length) → i < l.length → (code9 nx l).getD i 0 = if 0 < l.getD i 0 then nx.getD (l.getD i 0).toNat 0 + ((l.take i).count (l.getD i 0) : Nat) else 0
  | [], _, i, _, h => absurd h (Nat.not_lt_zero _)
  | n :: t, nx, 0, hx, _ => by simp [code9]
  | n :: t, nx, i + 1, hx, h => by
    have hn := hx n (List.mem_cons_self ..)
    have ht : i < t.length := by simpa using h
    have hm : t.getD i 0 ∈ t := by rw [List.getD_eq_getElem?_getD, List.getElem?_eq_getElem ht]; exact List.getElem_mem _
    have hti := hx _ (List.mem_cons_of_mem _ hm)
    rw [code9, List.getD_cons_succ, List.getD_cons_succ, code9_getD t _ i (fun x hx' => by have := hx x (List.mem_cons_of_mem _ hx'); split <;> simpa using this) ht, List.take_succ_cons, List.count_cons]
    generalize t.getD i 0 = y at hti ⊢
    by_cases hy : 0 < y
    · rw [if_pos hy, if_pos hy]
      by_cases h0 : 0 < n
      · rw [if_pos h0, getD_set9 _ _ _ _ (by omega)]
        by_cases he : n = y
        · rw [if_pos (by omega), if_pos (by simpa using he), he]; omega
        · rw [if_neg (by omega), if_neg (by simpa using he)]; omega
      · rw [if_neg h0, if_neg (by simp; omega)]; omega
    · rw [if_neg hy, if_neg hy]
/-- The code of a symbol. -/
theorem codesF_getD {l : List Int} (h : mayF l = 0) (i : Nat) (hi : i < l.length) : (codesF l).getD i 0 = if 0 < l.getD i 0 then fst9 (cntL l) (l.getD i 0).toNat + ((l.take i).count (l.getD i 0) : Nat) else 0 := by
  have hx := (may_zero h).2
  have hm : l.getD i 0 ∈ l := by rw [List.getD_eq_getElem?_getD, List.getElem?_eq_getElem hi]; exact List.getElem_mem _
  have hy := hx _ hm
  unfold codesF
  rw [if_pos h, code9_getD l _ i (fun x hx' => by rw [fstL_length]; have := hx x hx'; omega) hi, fstL_getD _ _ _ (by omega), if_pos (show (l.getD i 0).toNat < 16 by omega)]
theorem codesF_length {l : List Int} (h : mayF l = 0) : (codesF l).length = l.length := by
  unfold codesF; rw [if_pos h, code9_length]
/-- How many codes are not taken, of each length. -/
theorem kraft_le {l : List Int} (h : mayF l = 0) : kraft l ≤ 32768 := by
  unfold mayF at h
  rw [chk_eq] at h
  have hc := may_cnt (by unfold mayF; rw [chk_eq]; exact h : mayF l = 0)
  have h1 := cntE_in hc
  have h0 := h1.1
  rw [if_neg (show ¬ 320 < l.length by omega), if_pos (List.all_eq_true.2 (fun x hx => by simpa using h1.2 x hx))] at h
  by_cases h2 : kraft l ≤ 32768
  · exact h2
  · rw [if_neg (show ¬ kraft l = 0 by omega), if_pos (show 32768 < kraft l by omega)] at h
    simp at h
def lft (cs : List Int) (n : Nat) : Int := 2 ^ n - fst9 cs n - cs.getD n 0
theorem lft_succ (cs : List Int) (n : Nat) : lft cs (n + 1) = 2 * lft cs n - cs.getD (n + 1) 0 := by
  unfold lft; rw [fst9, Int.pow_succ']; omega
theorem sumG_lft (cs : List Int) : ∀ (k n : Nat), n + k + 1 = cs.length → sumG (cs.drop (n + 1)) (lft cs n) = lft cs (n + k)
  | 0, n, h => by rw [List.drop_of_length_le (by omega), sumG]; rfl
  | k + 1, n, h => by
    rw [List.drop_eq_getElem_cons (by omega), sumG]
    have e : 2 * lft cs n - cs[n + 1] = lft cs (n + 1) := by
      rw [lft_succ, List.getD_eq_getElem?_getD, List.getElem?_eq_getElem (by omega), Option.getD_some]
    rw [e, sumG_lft cs k (n + 1) (by omega), show n + 1 + k = n + (k + 1) by omega]
theorem lft_neg (cs : List Int) (hr : ∀ x ∈ cs, 0 ≤ x ∧ x ≤ 320) (n : Nat) (hn : n < 16) (hl : cs.length = 16) (h : lft cs n < 0) : ∀ k, n + k < 16 → lft cs (n + k) < 0
  | 0, _ => h
  | k + 1, hk => by
    have := lft_neg cs hr n hn hl h k (by omega)
    have hg := getD_rng9 hr (n + k + 1) (by omega)
    rw [show n + (k + 1) = n + k + 1 by omega, lft_succ]
    omega
theorem fst_room {l : List Int} (h : mayF l = 0) (n : Nat) (hn : n ≤ 15) : fst9 (cntL l) n + (cntL l).getD n 0 ≤ 2 ^ n := by
  have hc := may_cnt h
  have hs : sumG ((cntL l).drop 1) 1 = 32768 - kraft l := by
    have h1 := leftF_kraft hc
    have h2 := kraft_le h
    rw [if_pos h2] at h1
    rw [leftF, leftG_sum _ _ (fun c hc => (cntL_range l c (List.mem_of_mem_drop hc)).1) (by omega)] at h1
    split at h1 <;> omega
  have h0 : lft (cntL l) 0 = 1 := by unfold lft; rw [cntL_getD hc]; simp [fst9]
  have h15 := sumG_lft (cntL l) 15 0 (by rw [cntL_length])
  rw [h0, hs] at h15
  have hk := kraft_le h
  by_cases h1 : lft (cntL l) n < 0
  · have h2 := lft_neg (cntL l) (cntL_range l) n (by omega) (cntL_length l) h1 (15 - n) (by omega)
    rw [show n + (15 - n) = 0 + 15 by omega] at h2
    omega
  · unfold lft at h1; omega
theorem fst_up (cs : List Int) (hr : ∀ n, 0 ≤ cs.getD n 0) (m : Nat) : ∀ k, 2 ^ k * (2 * (fst9 cs m + cs.getD m 0)) ≤ fst9 cs (m + 1 + k)
  | 0 => by rw [fst9]; simp
  | k + 1 => by
    have h := fst_up cs hr m k
    have h2 := hr (m + 1 + k)
    rw [show m + 1 + (k + 1) = (m + 1 + k) + 1 by omega, fst9, Int.pow_succ', Int.mul_assoc]
    omega
theorem cntL_nonneg (l : List Int) (n : Nat) : 0 ≤ (cntL l).getD n 0 := by
  rw [List.getD_eq_getElem?_getD]
  cases h : (cntL l)[n]? with
  | none => simp
  | some z => exact (cntL_range l z (List.mem_of_getElem? h)).1
theorem count_take_lt (l : List Int) (i : Nat) (hi : i < l.length) : (l.take i).count (l.getD i 0) < l.count (l.getD i 0) := by
  have e : l = l.take i ++ (l.getD i 0 :: l.drop (i + 1)) := by
    rw [List.getD_eq_getElem?_getD, List.getElem?_eq_getElem hi, Option.getD_some, ← List.drop_eq_getElem_cons hi, List.take_append_drop]
  have h2 : l.count (l.getD i 0) = (l.take i).count (l.getD i 0) + (l.getD i 0 :: l.drop (i + 1)).count (l.getD i 0) := by
    rw [← List.count_append, ← e]
  rw [List.count_cons, beq_self_eq_true, if_pos rfl] at h2
  omega
/-- A code lies between the first of its length and the first behind. -/
theorem code_between {l : List Int} (h : mayF l = 0) (i : Nat) (hi : i < l.length) (n : Nat) (hn : l.getD i 0 = (n : Int)) (h0 : 0 < n) :
    (codesF l).getD i 0 = fst9 (cntL l) n + ((l.take i).count (n : Int) : Nat) ∧ (codesF l).getD i 0 < fst9 (cntL l) n + (cntL l).getD n 0 ∧ n ≤ 15 ∧ (codesF l).getD i 0 < 2 ^ n ∧ 0 ≤ (codesF l).getD i 0 := by
  have hx := (may_zero h).2
  have hm : l.getD i 0 ∈ l := by rw [List.getD_eq_getElem?_getD, List.getElem?_eq_getElem hi]; exact List.getElem_mem _
  have hy := hx _ hm
  have hc := codesF_getD h i hi
  have hlt := count_take_lt l i hi
  rw [hn] at hc hy hlt
  rw [if_pos (by omega), Int.toNat_natCast] at hc
  have hg := cntL_getD (may_cnt h) n
  rw [if_neg (by omega)] at hg
  have hr := fst_room h n (by omega)
  have hf := fst9_small (cntL l) (cntL_range l) n (by omega)
  refine ⟨hc, by omega, by omega, by omega, by omega⟩
end Go.Proofs.Ytcphjcggnblnkaa.Hand
