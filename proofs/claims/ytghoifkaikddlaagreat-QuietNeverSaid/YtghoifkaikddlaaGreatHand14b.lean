/- predict.Encode and predict.Decode in plain numbers: what Encode tells, and that Decode tells it again. binderylaw14.CoatBack answers true: walked by hand over the contracts of Check, Encode and Decode. -/
import Derived.Test.YtghoifkaikddlaaGreatP13x1
import Derived.Test.YtghoifkaikddlaaGreatBits
import Derived.Test.YtghoifkaikddlaaGreatHand14y
import Derived.Test.YtghoifkaikddlaaGreatRowN
namespace Go.Proofs.YtghoifkaikddlaaGreat.Lem13
set_option linter.unusedVariables false
open Go.RowKit Go.Proofs.YtghoifkaikddlaaGreat.P13 Go.Proofs.YtghoifkaikddlaaGreatW.PrintWords Go.Proofs.YtghoifkaikddlaaGreatW.PrintLast Go.Proofs.YtghoifkaikddlaaGreat.Hand Go.Proofs.YtghoifkaikddlaaGreat.Num
theorem ev_step {α : Type} {g f : Nat → Option α} {r : α} (h : Ev f r) (hs : ∀ k, g (k + 1) = f k) : Ev g r := by
 obtain ⟨K, h⟩ := h
 exact ⟨K + 1, fun k hk => by
  obtain ⟨k, rfl⟩ : ∃ m, k = m + 1 := ⟨k - 1, by omega⟩
  rw [hs]
  exact h k (by omega)⟩
theorem ev_one {α : Type} {g : Nat → Option α} {r : α} (hs : ∀ k, g (k + 1) = some r) : Ev g r :=
 ⟨1, fun k hk => by
  obtain ⟨k, rfl⟩ : ∃ m, k = m + 1 := ⟨k - 1, by omega⟩
  exact hs k⟩
theorem ext_ext (S : ByteArray) (p n : Nat) : (S.extract p S.size).extract n (S.extract p S.size).size = S.extract (p + n) S.size := by
 rw [ByteArray.extract_extract, ByteArray.size_extract]
 by_cases h : p ≤ S.size
 ·rw [show min (p + (min S.size S.size - p)) S.size = S.size by omega]
 ·apply bytes_ext
  rw [bytesOf_extract, bytesOf_extract, List.drop_eq_nil_of_le, List.drop_eq_nil_of_le]
  ·rw [List.length_take, bytesOf_length]; omega
  ·rw [List.length_take, bytesOf_length]; omega
def outJ (S : ByteArray) (n p j : Nat) : List Int := if j = 0 then pencTo S n p ++ [2] else pencTo S n (p + j)
theorem outJ_succ (S : ByteArray) (n p j : Nat) (hp : p % n = 0) (hj : j < n) : outJ S n p (j + 1) = outJ S n p j ++ [(bt S ((p + j : Nat) : Int) - aboveB S n (p + j)) % 256] := by
 unfold outJ
 rw [if_neg (by omega), ← Nat.add_assoc, pencTo]
 by_cases h0 : j = 0
 ·subst h0
  rw [if_pos rfl, Nat.add_zero, if_pos hp]
 ·rw [if_neg h0, if_neg]
  rw [Nat.add_mod, hp, Nat.zero_add, Nat.mod_mod, Nat.mod_eq_of_lt hj]
  exact h0
theorem outJ_length (S : ByteArray) (n p j : Nat) : (outJ S n p j).length ≤ 2 * (p + j) + 1 := by
 unfold outJ
 split
 ·have := pencTo_length S n p
  rw [List.length_append, List.length_singleton]; omega
 ·have := pencTo_length S n (p + j)
  omega
theorem rd_set (l : List Int) (j : Nat) (x : Int) (c : Nat) (hj : j < l.length) : rd (l.set j x) (c : Int) = if c = j then x else rd l (c : Int) := by
 unfold rd
 rw [Int.toNat_natCast, List.getD_eq_getElem?_getD, List.getD_eq_getElem?_getD, List.getElem?_set]
 by_cases h : j = c
 ·subst h; rw [if_pos rfl, if_pos hj, if_pos rfl]; rfl
 ·rw [if_neg h, if_neg (by omega)]
theorem enc_row (S : ByteArray) (n p : Nat) (r : ByteArray × Int) (hn : 1 ≤ n ∧ n ≤ 256) (hS : S.size ≤ 5000) (hp : p % n = 0) (hpn : p + n ≤ S.size)
  (hnext : ∀ ab : List Int, ab.length = n → (∀ c : Nat, c < n → rd ab (c : Int) = bt S ((p + c : Nat) : Int)) → Ev (fun k => predict_Encode.l0 k (S.extract (p + n) S.size) n (pencTo S n (p + n)) ab) r) :
  ∀ (d j : Nat) (ab : List Int), j + d = n → ab.length = n → (∀ c : Nat, c < n → rd ab (c : Int) = if c < j then bt S ((p + c : Nat) : Int) else aboveB S n (p + c)) →
   Ev (fun k => predict_Encode.l1 k (S.extract p S.size) n (outJ S n p j) ab n j) r := by
 intro d
 have hsz : (S.extract p S.size).size = S.size - p := by rw [ByteArray.size_extract]; omega
 induction d with
 | zero =>
  intro j ab hj hl hc
  have ej : j = n := by omega
  rw [ej] at hc ⊢
  have e := hnext ab hl (fun c hcn => by rw [hc c hcn, if_pos hcn])
  refine ev_step e (fun k => ?_)
  simp only [predict_Encode.l1]
  rw [if_neg (by omega), if_pos (by omega), if_pos (by omega), Int.toNat_natCast, ext_ext]
  unfold outJ
  rw [if_neg (by omega)]
 | succ d ih =>
  intro j ab hj hl hc
  have e := ih (j + 1) (ab.set j (bt S ((p + j : Nat) : Int))) (by omega) (by rw [List.length_set, hl]) (by
   intro c hcn
   rw [rd_set _ _ _ _ (by omega)]
   by_cases h : c = j
   ·subst h; rw [if_pos rfl, if_pos (by omega)]
   ·rw [if_neg h, hc c hcn]
    by_cases h2 : c < j
    ·rw [if_pos h2, if_pos (by omega)]
    ·rw [if_neg h2, if_neg (by omega)])
  refine ev_step e (fun k => ?_)
  have hol := outJ_length S n p j
  have hb : bt (S.extract p S.size) (j : Int) = bt S ((p + j : Nat) : Int) := bt_extract S p S.size j (by omega) (by omega)
  have hr : rd ab (j : Int) = aboveB S n (p + j) := by rw [hc j (by omega), if_neg (by omega)]
  simp only [predict_Encode.l1]
  rw [if_pos (by omega), if_pos (by omega), if_pos (by omega), if_pos (by omega), if_pos (by omega), hb, hr, ← outJ_succ S n p j hp (by omega), Int.toNat_natCast, w64 (by omega) (by omega)]
  rfl
theorem enc_rows (S : ByteArray) (n b : Nat) (hn : 1 ≤ n ∧ n ≤ 256) (hS : S.size ≤ 5000) (hb : S.size = n * b) :
  ∀ (m q : Nat) (ab : List Int), q ≤ b → b - q ≤ m → ab.length = n → (∀ c : Nat, c < n → rd ab (c : Int) = aboveB S n (n * q + c)) →
   Ev (fun k => predict_Encode.l0 k (S.extract (n * q) S.size) n (pencTo S n (n * q)) ab) (strOfNums (pencTo S n S.size), 0) := by
 intro m
 induction m with
 | zero =>
  intro q ab hq hm hl hc
  have eq : q = b := by omega
  rw [eq, ← hb]
  refine ev_one (fun k => ?_)
  simp only [predict_Encode.l0]
  rw [if_pos ((toList_bytes _).2 (by rw [ByteArray.size_extract]; omega))]
 | succ m ih =>
  intro q ab hq hm hl hc
  by_cases eq : q = b
  ·rw [eq, ← hb]
   refine ev_one (fun k => ?_)
   simp only [predict_Encode.l0]
   rw [if_pos ((toList_bytes _).2 (by rw [ByteArray.size_extract]; omega))]
  ·have hle : n * (q + 1) ≤ n * b := Nat.mul_le_mul_left n (by omega)
   have hm1 : n * (q + 1) = n * q + n := Nat.mul_succ n q
   have hpl := pencTo_length S n (n * q)
   have e := enc_row S n (n * q) (strOfNums (pencTo S n S.size), 0) hn hS (Nat.mul_mod_right n q) (by omega) (fun ab' hl' hc' => by
    have := ih (q + 1) ab' (by omega) (by omega) hl' (fun c hcn => by
     rw [hc' c hcn, aboveB, if_pos (by omega), show n * (q + 1) + c - n = n * q + c by omega])
    rw [hm1] at this
    exact this) n 0 ab (by omega) hl (fun c hcn => by rw [if_neg (by omega), hc c hcn])
   refine ev_step e (fun k => ?_)
   simp only [predict_Encode.l0]
   rw [if_neg (fun h => by have := (toList_bytes _).1 h; rw [ByteArray.size_extract] at this; omega), if_pos (by omega)]
   rfl
theorem enc_good (s : ByteArray) (n : Nat) (hn : 1 ≤ n ∧ n ≤ 256) (hs : s.size ≤ 5000) (hd : s.size % n = 0) : Ev (fun k => predict_Encode.f k s n) (strOfNums (pencTo s n s.size), 0) := by
 obtain ⟨b, hb⟩ := Nat.dvd_of_mod_eq_zero hd
 have e := enc_rows s n b hn hs hb b 0 (List.replicate n 0) (by omega) (by omega) (by rw [List.length_replicate]) (fun c hc => by
  rw [Nat.mul_zero, Nat.zero_add, aboveB, if_neg (by omega)]
  unfold rd
  rw [Int.toNat_natCast, List.getD_eq_getElem?_getD, List.getElem?_replicate, if_pos hc]
  rfl)
 obtain ⟨K, h⟩ := e
 refine ⟨K, fun k hk => ?_⟩
 have hk1 := h k hk
 dsimp only at hk1 ⊢
 rw [Nat.mul_zero, ByteArray.extract_zero_size] at hk1
 have hmod : ((s.size : Nat) : Int) % (n : Int) = 0 := by omega
 unfold predict_Encode.f predict_may.f
 rw [if_pos (by omega), Option.bind_some, if_pos (by rw [decide_eq_true]; omega), if_neg (by omega), if_pos hmod, if_pos (by omega), if_pos (by omega), Int.toNat_natCast]
 exact hk1
theorem bt_range (s : ByteArray) (i : Int) : 0 ≤ bt s i ∧ bt s i ≤ 255 := by
 unfold bt
 split
 ·rename_i h; have := (s[i.toNat]).toNat_lt; omega
 ·omega
theorem bt_getD (s : ByteArray) (i : Nat) : bt s (i : Int) = (bytesOf s).getD i 0 := by
 rw [List.getD_eq_getElem?_getD, bytesOf_get?]
 split
 ·rfl
 ·rename_i h
  unfold bt
  rw [dif_neg (by rw [Int.toNat_natCast]; exact h)]
  rfl
theorem bt_str (l : List Int) (hl : ∀ x ∈ l, 0 ≤ x ∧ x < 256) (i : Nat) : bt (strOfNums l) (i : Int) = l.getD i 0 := by rw [bt_getD, bytesOf_strOfNums l hl]
def rowOf (S : ByteArray) (n r : Nat) : List Int := ((bytesOf S).drop (n * r)).take n
theorem rowOf_getD (S : ByteArray) (n r c : Nat) (h : c < n) : (rowOf S n r).getD c 0 = bt S ((n * r + c : Nat) : Int) := by
 rw [bt_getD, List.getD_eq_getElem?_getD, List.getD_eq_getElem?_getD, rowOf, List.getElem?_take, if_pos h, List.getElem?_drop]
theorem rowOf_length (S : ByteArray) (n r b : Nat) (hb : S.size = n * b) (hr : r < b) : (rowOf S n r).length = n := by
 have : n * (r + 1) ≤ n * b := Nat.mul_le_mul_left n (by omega)
 have h2 : n * (r + 1) = n * r + n := Nat.mul_succ n r
 rw [rowOf, List.length_take, List.length_drop, bytesOf_length]; omega
theorem take_row (S : ByteArray) (n r : Nat) : (bytesOf S).take (n * (r + 1)) = (bytesOf S).take (n * r) ++ rowOf S n r := by
 rw [rowOf, Nat.mul_succ, List.take_add]
def aboveOf (S : ByteArray) (n r : Nat) : List Int := if r = 0 then List.replicate n 0 else rowOf S n (r - 1)
theorem aboveOf_getD (S : ByteArray) (n r c : Nat) (h : c < n) : (aboveOf S n r).getD c 0 = aboveB S n (n * r + c) := by
 unfold aboveOf aboveB
 by_cases h0 : r = 0
 ·subst h0
  rw [if_pos rfl, if_neg (by omega), List.getD_eq_getElem?_getD, List.getElem?_replicate, if_pos h]; rfl
 ·have : n * 1 ≤ n * r := Nat.mul_le_mul_left n (by omega)
  rw [if_neg h0, rowOf_getD S n (r - 1) c h, if_pos (by omega), Nat.mul_sub, show n * r - n * 1 + c = n * r + c - n by omega]
theorem row_tells (K : Int) (xs ys ab : List Int) (n : Nat) (hK : 0 ≤ K ∧ K < 256) (hxl : xs.length = n) (hyl : ys.length = n) (hx : ∀ x ∈ xs, 0 ≤ x ∧ x < 256)
  (hg : ∀ i : Nat, i < n → ∀ a c, ∃ g, guessF K a (ab.getD i 0) c = some g ∧ (xs.getD i 0 + g) % 256 = ys.getD i 0) : ∀ i : Nat, i ≤ n → rowF (strOfNums (K :: xs)) ab i = some (ys.take i) := by
 have hr : ∀ x ∈ K :: xs, 0 ≤ x ∧ x < 256 := fun x hx' => by
  rcases List.mem_cons.1 hx' with rfl | h
  ·exact hK
  ·exact hx x h
 have h0 : bt (strOfNums (K :: xs)) 0 = K := bt_str _ hr 0
 intro i
 induction i with
 | zero => intro _; rw [rowF, List.take_zero]
 | succ i ih =>
  intro hi
  obtain ⟨g, h1, h2⟩ := hg i (by omega) (if i = 0 then 0 else (ys.take i).getD (i - 1) 0) (if i = 0 then 0 else ab.getD (i - 1) 0)
  have h3 : bt (strOfNums (K :: xs)) ((i + 1 : Nat) : Int) = xs.getD i 0 := bt_str _ hr (i + 1)
  rw [rowF, ih (by omega), Option.bind_some, h0, h1, Option.map_some, h3, h2, List.take_add_one, List.getD_eq_getElem?_getD, List.getElem?_eq_getElem (show i < ys.length by omega)]
  rfl
theorem str_app (a b : List Int) : strOfNums (a ++ b) = strOfNums a ++ strOfNums b := by
 apply ByteArray.ext
 rw [ByteArray.data_append]
 apply Array.toList_inj.1
 rw [Array.toList_append, strOfNums_data, strOfNums_data, strOfNums_data, List.map_append]
theorem str_size (l : List Int) : (strOfNums l).size = l.length := by rw [size_data, strOfNums_data, List.length_map]
theorem ext_left (a b : ByteArray) : (a ++ b).extract 0 a.size = a := by
 apply ByteArray.ext
 rw [ByteArray.data_extract, ByteArray.data_append, ← ByteArray.size_data]
 simp
theorem ext_right (a b : ByteArray) : (a ++ b).extract a.size (a ++ b).size = b := by
 apply ByteArray.ext
 rw [ByteArray.data_extract, ByteArray.size_append, ByteArray.data_append]
 simp [← ByteArray.size_data]
theorem rows_back (S : ByteArray) (n b : Nat) (hn : 1 ≤ n ∧ n ≤ 256) (hS : S.size ≤ 5000) (hb : S.size = n * b) (R : Nat → List Int) (hR : ∀ r, r < b → (R r).length = n + 1 ∧ rowF (strOfNums (R r)) (aboveOf S n r) n = some (rowOf S n r)) :
  ∀ (d r : Nat), r + d = b → Ev (fun k => pdecL k (strOfNums ((List.range' r d).flatMap R)) (aboveOf S n r) ((bytesOf S).take (n * r)) n) (S, 0) := by
 have hbb : b ≤ 5000 := by
  have : 1 * b ≤ n * b := Nat.mul_le_mul_right b (by omega)
  omega
 intro d
 induction d with
 | zero =>
  intro r hr
  have er : r = b := by omega
  refine ev_one (fun k => ?_)
  have hlen : ((bytesOf S).take (n * r)).length ≤ 5000 := by rw [List.length_take, bytesOf_length]; omega
  simp only [pdecL, List.range'_zero, List.flatMap_nil]
  rw [if_pos ⟨by rw [str_size]; decide, by omega⟩, if_pos (by rw [str_size]; rfl), er, ← hb, ← bytesOf_length, List.take_length, strOfNums_bytesOf]
 | succ d ih =>
  intro r hr
  have e := ih (r + 1) (by omega)
  obtain ⟨l1, l2⟩ := hR r (by omega)
  refine ev_step e (fun k => ?_)
  have hlen : ((bytesOf S).take (n * r)).length ≤ 5000 := by rw [List.length_take, bytesOf_length]; omega
  have hfl : ∀ d r : Nat, r + d ≤ b → ((List.range' r d).flatMap R).length = d * (n + 1) := by
   intro d
   induction d with
   | zero => intro r _; simp
   | succ d ih2 => intro r h; rw [List.range'_succ, List.flatMap_cons, List.length_append, ih2 (r + 1) (by omega), (hR r (by omega)).1, Nat.succ_mul]; omega
  have hsz : ((List.range' (r + 1) d).flatMap R).length ≤ 900000 := by
   rw [hfl d (r + 1) (by omega)]
   have h1 : d * (n + 1) ≤ b * (n + 1) := Nat.mul_le_mul_right _ (by omega)
   have h2 : b * (n + 1) = n * b + b := by rw [Nat.mul_succ, Nat.mul_comm]
   omega
  rw [List.range'_succ, List.flatMap_cons, str_app]
  have hz : (strOfNums (R r) ++ strOfNums ((List.range' (r + 1) d).flatMap R)).size = n + 1 + ((List.range' (r + 1) d).flatMap R).length := by rw [ByteArray.size_append, str_size, str_size, l1]
  have hx1 : (strOfNums (R r) ++ strOfNums ((List.range' (r + 1) d).flatMap R)).extract 0 (n + 1) = strOfNums (R r) := by
   have := ext_left (strOfNums (R r)) (strOfNums ((List.range' (r + 1) d).flatMap R))
   rwa [str_size, l1] at this
  have hx2 : (strOfNums (R r) ++ strOfNums ((List.range' (r + 1) d).flatMap R)).extract (n + 1) (strOfNums (R r) ++ strOfNums ((List.range' (r + 1) d).flatMap R)).size = strOfNums ((List.range' (r + 1) d).flatMap R) := by
   have := ext_right (strOfNums (R r)) (strOfNums ((List.range' (r + 1) d).flatMap R))
   rwa [str_size (R r), l1] at this
  simp only [pdecL]
  rw [if_pos ⟨by omega, by omega⟩, if_neg (by omega), if_pos (by omega), hx1, hx2, l2]
  simp only
  rw [← take_row, show aboveOf S n (r + 1) = rowOf S n r by unfold aboveOf; rw [if_neg (by omega)]; rfl]
def R2 (S : ByteArray) (n r : Nat) : List Int := 2 :: (List.range n).map (fun c => (bt S ((n * r + c : Nat) : Int) - aboveB S n (n * r + c)) % 256)
theorem outJ_rows (S : ByteArray) (n r : Nat) (hn : 1 ≤ n) : ∀ j, j ≤ n → outJ S n (n * r) j = pencTo S n (n * r) ++ (2 :: (List.range j).map (fun c => (bt S ((n * r + c : Nat) : Int) - aboveB S n (n * r + c)) % 256)) := by
 intro j
 induction j with
 | zero => intro _; rfl
 | succ j ih => intro hj; rw [outJ_succ S n (n * r) j (Nat.mul_mod_right n r) (by omega), ih (by omega), List.range_succ, List.map_append, List.append_assoc]; rfl
theorem penc_rows (S : ByteArray) (n : Nat) (hn : 1 ≤ n) : ∀ b, pencTo S n (n * b) = (List.range b).flatMap (R2 S n) := by
 intro b
 induction b with
 | zero => rfl
 | succ b ih =>
  have := outJ_rows S n b hn n (Nat.le_refl _)
  rw [outJ, if_neg (by omega), ← Nat.mul_succ, ih] at this
  rw [this, List.range_succ, List.flatMap_append]
  simp [R2]
theorem r2_tells (S : ByteArray) (n b r : Nat) (hn : 1 ≤ n) (hb : S.size = n * b) (hr : r < b) : (R2 S n r).length = n + 1 ∧ rowF (strOfNums (R2 S n r)) (aboveOf S n r) n = some (rowOf S n r) := by
 refine ⟨by simp [R2], ?_⟩
 have := row_tells 2 ((List.range n).map (fun c => (bt S ((n * r + c : Nat) : Int) - aboveB S n (n * r + c)) % 256)) (rowOf S n r) (aboveOf S n r) n (by omega) (by simp) (rowOf_length S n r b hb hr) (fun x hx => by
   obtain ⟨c, _, rfl⟩ := List.mem_map.1 hx
   omega) (fun i hi a c => by
   have hbr := Lem13.bt_range S ((n * r + i : Nat) : Int)
   refine ⟨aboveB S n (n * r + i), by rw [← aboveOf_getD S n r i hi]; rfl, ?_⟩
   rw [rowOf_getD S n r i hi, List.getD_eq_getElem?_getD, List.getElem?_map, List.getElem?_range hi]
   simp only [Option.map_some, Option.getD_some]
   omega) n (Nat.le_refl _)
 rw [List.take_of_length_le (by rw [rowOf_length S n r b hb hr]; omega)] at this
 exact this
theorem dec_back (S : ByteArray) (n b : Nat) (hn : 1 ≤ n ∧ n ≤ 256) (hS : S.size ≤ 5000) (hb : S.size = n * b) (R : Nat → List Int) (hR : ∀ r, r < b → (R r).length = n + 1 ∧ rowF (strOfNums (R r)) (aboveOf S n r) n = some (rowOf S n r)) :
  Ev (fun k => predict_Decode.f k (strOfNums ((List.range b).flatMap R)) n) (S, 0) ∧ (strOfNums ((List.range b).flatMap R)).size = b * (n + 1) := by
 have hfl : ∀ d : Nat, d ≤ b → ((List.range d).flatMap R).length = d * (n + 1) := by
  intro d
  induction d with
  | zero => intro _; simp
  | succ d ih2 => intro h; rw [List.range_succ, List.flatMap_append, List.length_append, ih2 (by omega), List.flatMap_cons, List.flatMap_nil, List.append_nil, (hR d (by omega)).1, Nat.succ_mul]
 have hbb : b ≤ 5000 := by
  have : 1 * b ≤ n * b := Nat.mul_le_mul_right b (by omega)
  omega
 have hz : (strOfNums ((List.range b).flatMap R)).size = b * (n + 1) := by rw [str_size, hfl b (Nat.le_refl _)]
 have h2 : b * (n + 1) = n * b + b := by rw [Nat.mul_succ, Nat.mul_comm]
 refine ⟨?_, hz⟩
 obtain ⟨K, e⟩ := rows_back S n b hn hS hb R hR b 0 (by omega)
 refine ⟨K, fun k hk => ?_⟩
 have e1 := e k hk
 dsimp only at e1 ⊢
 unfold predict_Decode.f
 rw [Nat.mul_zero, List.take_zero, ← List.range_eq_range'] at e1
 have hm : ((strOfNums ((List.range b).flatMap R)).size : Int) % ((n : Int) + 1) = 0 := by
  rw [hz, Int.natCast_mul, show ((n + 1 : Nat) : Int) = (n : Int) + 1 by omega]
  exact Int.mul_emod_left _ _
 rw [if_pos (by omega), if_pos (by omega), if_pos hm, Int.toNat_natCast]
 exact e1
theorem penc_back (s : ByteArray) (n : Nat) (hn : 1 ≤ n ∧ n ≤ 256) (hs : s.size ≤ 5000) (hd : s.size % n = 0) :
  Ev (fun k => predict_Decode.f k (strOfNums (pencTo s n s.size)) n) (s, 0) ∧ (strOfNums (pencTo s n s.size)).size ≤ 2 * s.size := by
 obtain ⟨b, hb⟩ := Nat.dvd_of_mod_eq_zero hd
 have h := dec_back s n b hn hs hb (R2 s n) (fun r hr => r2_tells s n b r hn.1 hb hr)
 rw [← penc_rows s n hn.1 b, ← hb] at h
 refine ⟨h.1, ?_⟩
 have h1 : 1 * b ≤ n * b := Nat.mul_le_mul_right b hn.1
 rw [h.2, Nat.mul_succ, Nat.mul_comm b n, ← hb]
 omega
end Go.Proofs.YtghoifkaikddlaaGreat.Lem13
namespace Go.Proofs.YtghoifkaikddlaaGreat.Hand
open Go.RowKit Go.Proofs.YtghoifkaikddlaaGreatW.PrintWords Go.Proofs.YtghoifkaikddlaaGreatW.PrintLast Go.Proofs.YtghoifkaikddlaaGreat.Num
set_option linter.unusedVariables false
set_option linter.unusedSimpArgs false
def preP (s : ByteArray) (c : Int) : ByteArray := if 0 < c then strOfNums (pencTo s c.toNat s.size) else s
theorem preP_size (s : ByteArray) (c : Int) (hc : c ≤ 255) (hs : s.size ≤ 500) (hd : 0 < c → s.size % c.toNat = 0) : (preP s c).size ≤ 2 * s.size := by
 unfold preP
 by_cases h : 0 < c
 ·rw [if_pos h]
  exact (Lem13.penc_back s c.toNat (by omega) (by omega) (hd h)).2
 ·rw [if_neg h]
  omega
theorem penc_calls (s : ByteArray) (c : Int) (w : World) (h0 : 0 < c) (hc : c ≤ 255) (hs : s.size ≤ 500) (hd : s.size % c.toNat = 0) :
  Calls Tryz.prog 25 #[.string s, .int .i64 c] w fun e w' => e = .returned (.tuple #[.string (preP s c), .int .i64 0]) ∧ Below w.heap.size w w' := by
 obtain ⟨k, h⟩ := (Lem13.enc_good s c.toNat (by omega) (by omega) hd).rounds
 rw [Int.toNat_of_nonneg (by omega)] at h
 unfold preP
 rw [if_pos h0]
 exact P13.predict_Encode.calls k s c _ _ w h
theorem pdec_calls (s : ByteArray) (c : Int) (w : World) (h0 : 0 < c) (hc : c ≤ 255) (hs : s.size ≤ 500) (hd : s.size % c.toNat = 0) :
  Calls Tryz.prog 32 #[.string (preP s c), .int .i64 c] w fun e w' => e = .returned (.tuple #[.string s, .int .i64 0]) ∧ Below w.heap.size w w' := by
 obtain ⟨k, h⟩ := (Lem13.penc_back s c.toNat (by omega) (by omega) hd).1.rounds
 rw [Int.toNat_of_nonneg (by omega)] at h
 unfold preP
 rw [if_pos h0]
 exact predict_Decode.calls k _ c _ _ w h
theorem chk_ok {l : List ByteArray} {c : Int} (h : cchkF l c = 0) : l.length ≤ 4 ∧ ∀ nm ∈ l, kn nm ≠ 0 := by
 obtain ⟨h4, h5⟩ := chk_len h
 refine ⟨h4, fun nm hnm => ?_⟩
 obtain ⟨i, hi, rfl⟩ := List.mem_iff_getElem.1 hnm
 have := h5 i hi
 rwa [List.getD_eq_getElem?_getD, List.getElem?_eq_getElem hi] at this
theorem pow4 {n : Nat} (h : n ≤ 4) (a : Nat) : 2 ^ n * a ≤ 16 * a := Nat.mul_le_mul_right _ (Nat.pow_le_pow_right (n := 2) (by omega) h)
theorem cbE_calls (A : Option Addr) (n cap : Nat) (l : List ByteArray) (c : Int) (s : ByteArray) (w : World) (hn : n = l.length) (hl : Strs w A l) (h0 : 0 ≤ c) (hc : c ≤ 255) (hs : s.size ≤ 500) (hd : 0 < c → s.size % c.toNat = 0) (hk : cchkF l c = 0) :
  Calls Tryz.prog 17 #[.slice A n cap, .int .i64 c, .string s] w fun e w' => e = .returned (.tuple #[.string (foldOn onA l (preP s c)), .int .i64 0]) ∧ Below w.heap.size w w' := by
 obtain ⟨h4, hkn⟩ := chk_ok hk
 have hz := preP_size s c hc hs hd
 have h1 := pow4 h4 (s.size + 20)
 have h2 := pow4 h4 ((preP s c).size + 20)
 have h := encode_calls onA (fun _ _ => (preP s c, 0)) _ onA_ok A n cap l c s w hn hl (fun _ i hi => kA (by
  rw [List.getD_eq_getElem?_getD, List.getElem?_eq_getElem hi]
  exact hkn _ (List.getElem_mem hi))) (by omega) (fun _ => by omega) (fun _ hc0 => ⟨fun W => penc_calls s c W hc0 hc hs (hd hc0), by show 2 ^ l.length * ((preP s c).size + 20) ≤ 60000; omega⟩)
 have e : encF onA (fun _ _ => (preP s c, 0)) l c s = (foldOn onA l (preP s c), 0) := by
  unfold encF
  rw [if_pos hk]
  by_cases hc0 : 0 < c
  ·rw [if_pos hc0, if_pos rfl]
  ·rw [if_neg hc0]
   unfold preP
   rw [if_neg hc0]
 rw [e] at h
 exact h
theorem cbN_calls (A : Option Addr) (n cap : Nat) (l : List ByteArray) (c : Int) (s : ByteArray) (w : World) (hn : n = l.length) (hl : Strs w A l) (hs : s.size ≤ 500) (hk : cchkF l c ≠ 0) :
  Calls Tryz.prog 17 #[.slice A n cap, .int .i64 c, .string s] w fun e w' => e = .returned (.tuple #[.string ⟨#[]⟩, .int .i64 (cchkF l c)]) ∧ Below w.heap.size w w' := by
 have h := encode_calls onA pZ _ onA_ok A n cap l c s w hn hl (fun h => absurd h hk) (by omega) (fun h4 => by have := pow4 h4 (s.size + 20); omega) (fun h => absurd h hk)
 have e : encF onA pZ l c s = (⟨#[]⟩, cchkF l c) := by unfold encF; rw [if_neg hk]
 rw [e] at h
 exact h
theorem cbD_calls (A : Option Addr) (n cap : Nat) (l : List ByteArray) (c most : Int) (s : ByteArray) (w : World) (hn : n = l.length) (hl : Strs w A l) (h0 : 0 ≤ c) (hc : c ≤ 255) (hs : s.size ≤ 500) (hd : 0 < c → s.size % c.toNat = 0) (hk : cchkF l c = 0) (hm0 : 0 ≤ most) (hm1 : most ≤ s.size) (hm2 : (s.size : Int) ≤ most + 1) :
  Calls Tryz.prog 21 #[.slice A n cap, .int .i64 c, .string (foldOn onA l (preP s c)), .int .i64 most] w fun e w' => e = .returned (if most < s.size then .tuple #[.string ⟨#[]⟩, .int .i64 7] else .tuple #[.string s, .int .i64 0]) ∧ Below w.heap.size w w' := by
 obtain ⟨h4, hkn⟩ := chk_ok hk
 have hz := preP_size s c hc hs hd
 have h2 := pow4 h4 ((preP s c).size + 20)
 have hx := fold_size l (preP s c) h4 hkn (by omega)
 have h3 : 2 ^ (l.length - 1) * ((preP s c).size + 20) ≤ 8 * ((preP s c).size + 20) := Nat.mul_le_mul_right _ (show 2 ^ (l.length - 1) ≤ 2 ^ 3 from Nat.pow_le_pow_right (by omega) (by omega))
 have hfb := fold_back (16 * most + 1024) (preP s c) l h4 hkn (by omega) (by omega)
 have h := decode_calls offA (fun _ _ => (s, 0)) _ offA_ok A n cap l c (foldOn onA l (preP s c)) most w hn hl (fun _ i hi => kA (by
  rw [List.getD_eq_getElem?_getD, List.getElem?_eq_getElem hi]
  exact hkn _ (List.getElem_mem hi))) (by omega) (by omega) (fun _ hc0 _ W => by
   rw [hfb]
   exact pdec_calls s c W hc0 hc hs (hd hc0))
 have e : decF offA (fun _ _ => (s, 0)) l c (foldOn onA l (preP s c)) most = if most < s.size then (⟨#[]⟩, 7) else (s, 0) := by
  unfold decF
  rw [if_pos hk, if_neg (by omega), hfb, lastF]
  dsimp only
  rw [if_pos rfl]
  by_cases hc0 : 0 < c
  ·rw [if_pos hc0, if_pos rfl]
  ·rw [if_neg hc0]
   unfold preP
   rw [if_neg hc0]
 rw [e] at h
 refine h.mono ?_
 rintro e W ⟨rfl, hb⟩
 refine ⟨?_, hb⟩
 split <;> rfl
set_option maxRecDepth 100000 in
set_option maxHeartbeats 8000000 in
theorem coatBack_walk (A : Option Addr) (n cap : Nat) (l : List ByteArray) (a : Int) (s : ByteArray) (w : World) (w0 : Names w A n cap l) (wa : (Lit.int .u8 a).wf = true) (ws : s.size ≤ 140737488351232) :
  Calls Tryz.prog 7 #[.slice A n cap, .int .u8 a, .string s] w fun e w' => e = .returned (.bool true) ∧ Below w.heap.size w w' := by
 have ha : 0 ≤ a ∧ a ≤ 255 := by
  simp [Lit.wf, IntKind.min, IntKind.max, IntKind.bits, IntKind.signed] at wa
  exact wa
 have KT := Aside0.mk (fun W => coats_calls W)
 obtain ⟨hn, hnc, hm, hst, hso⟩ := w0
 have HN := Aside0.mk hn
 clear hn wa hso hm
 by_cases h1 : 4 < n
 ·have q1 : decide ((4 : Int) < (n : Int)) = true := decide_eq_true (by omega)
  go_enter Tryz.func7, Tryz.ntmps7
  go_wp2_with (first | (go_at_call 16; (with_reducible refine (KT.out _).mono ?_); rintro e w1 ⟨rfl, hb1⟩))
  go_ret
  exact ⟨rfl, hb1⟩
 have q1 : decide ((4 : Int) < (n : Int)) = false := decide_eq_false (by omega)
 by_cases h2 : 500 < s.size
 ·have q2 : decide ((500 : Int) < (s.size : Int)) = true := decide_eq_true (by omega)
  go_enter Tryz.func7, Tryz.ntmps7
  go_wp2_with (first | (go_at_call 16; (with_reducible refine (KT.out _).mono ?_); rintro e w1 ⟨rfl, hb1⟩))
  go_ret
  exact ⟨rfl, hb1⟩
 have q2 : decide ((500 : Int) < (s.size : Int)) = false := decide_eq_false (by omega)
 by_cases hc0 : 0 < a
 ·have q3 : decide ((0 : Int) < a) = true := decide_eq_true hc0
  obtain ⟨b, hb⟩ : ∃ b : Nat, a = (b : Int) := ⟨a.toNat, by omega⟩
  subst hb
  have hb0 : 0 < b := by omega
  obtain ⟨q, hq⟩ : ∃ q, q = s.size / b := ⟨_, rfl⟩
  obtain ⟨m, hm⟩ : ∃ m, m = q * b := ⟨_, rfl⟩
  have hms : m ≤ s.size := by rw [hm, hq]; exact Nat.div_mul_le_self _ _
  have hqs : q ≤ s.size := by rw [hq]; exact Nat.div_le_self _ _
  have ht1 : Int.tdiv (s.size : Int) (b : Int) = (q : Int) := by rw [hq]; exact Int.ofNat_tdiv s.size b |>.symm
  have hw1 : IntKind.i64.wrap (q : Int) = (q : Int) := IntWalk.i64_in _ (by omega)
  have ht2 : (q : Int) * (b : Int) = (m : Int) := by rw [hm, Int.natCast_mul]
  have hz : ((b : Int) == 0) = false := beq_false_of_ne (by omega)
  have hsz : (s.extract 0 m).size = m := by rw [ByteArray.size_extract]; omega
  have hdv : m % b = 0 := by rw [hm]; exact Nat.mul_mod_left _ _
  have H0 := Aside0.mk (And.intro hsz (And.intro hdv hms))
  clear hq hm hsz hdv
  go_enter Tryz.func7, Tryz.ntmps7
  go_upto_region 6 with fail
  obtain ⟨s0, hs0⟩ : ∃ s0, s0 = s.extract 0 m := ⟨_, rfl⟩
  rw [← hs0] at H0 ⊢
  clear hs0
  obtain ⟨hsz, hdv, hms2⟩ := H0.out
  have hs5 : s0.size ≤ 500 := by omega
  have hd0 : (0 : Int) < (b : Int) → s0.size % (b : Int).toNat = 0 := fun _ => by rw [Int.toNat_natCast, hsz]; exact hdv
  clear H0 hsz hdv hms2 hms hqs ht1 hw1 ht2 hz
  have KC := Aside0.mk (fun (W : World) (h : Strs W A l) => ccheck_calls A n cap l (b : Int) W HN.out h)
  by_cases hk : cchkF l (b : Int) = 0
  ·rw [hk] at KC
   have KE := Aside0.mk (fun (W : World) (h : Strs W A l) => cbE_calls A n cap l (b : Int) s0 W HN.out h (by omega) (by omega) hs5 hd0 hk)
   have KD := Aside0.mk (fun (W : World) (h : Strs W A l) => cbD_calls A n cap l (b : Int) (s0.size : Int) s0 W HN.out h (by omega) (by omega) hs5 hd0 hk (by omega) (Int.le_refl _) (by omega))
   simp only [Int.lt_irrefl, if_false] at KD
   by_cases he : s0.size = 0
   ·have t0 : (s0.toList == ([] : List UInt8)) = true := beq_iff_eq.2 ((toList_bytes _).2 he)
    generalize foldOn onA l (preP s0 (b : Int)) = E at *
    clear he hk
    go_wp2_with (first | (go_at_call 17; (with_reducible refine (KE.out _ hst).mono ?_); rintro e w1 ⟨rfl, hb1⟩; have H1 := Aside0.mk (And.intro hb1 (hst.below hb1)); clear hb1 KE) | (go_at_call 19; (with_reducible refine (KC.out _ H1.out.2).mono ?_); rintro e w2 ⟨rfl, hb2⟩; have H2 := Aside0.mk (And.intro (H1.out.1.trans (hb2.mono H1.out.1.size)) (H1.out.2.below hb2)); clear hb2 KC) | (go_at_call 21; (with_reducible refine (KD.out _ H2.out.2).mono ?_); rintro e w3 ⟨rfl, hb3⟩; have H3 := Aside0.mk (And.intro (H2.out.1.trans (hb3.mono H2.out.1.size)) (H2.out.2.below hb3)); clear hb3 KD) | (go_at_call 16; (with_reducible refine (KT.out _).mono ?_); rintro e w9 ⟨rfl, hb9⟩))
    go_ret
    exact ⟨rfl, H3.out.1.trans (hb9.mono H3.out.1.size)⟩
   ·have t0 : (s0.toList == ([] : List UInt8)) = false := beq_false_of_ne (fun h => he ((toList_bytes _).1 h))
    obtain ⟨z, hz1⟩ : ∃ z : Int, z = (s0.size : Int) - 1 := ⟨_, rfl⟩
    have KD2 := Aside0.mk (fun (W : World) (h : Strs W A l) => cbD_calls A n cap l (b : Int) z s0 W HN.out h (by omega) (by omega) hs5 hd0 hk (by omega) (by omega) (by omega))
    simp only [if_pos (show z < (s0.size : Int) by omega)] at KD2
    have hz2 := hz1.symm
    generalize foldOn onA l (preP s0 (b : Int)) = E at *
    clear he hk hz1
    go_wp2_with (first | (go_at_call 17; (with_reducible refine (KE.out _ hst).mono ?_); rintro e w1 ⟨rfl, hb1⟩; have H1 := Aside0.mk (And.intro hb1 (hst.below hb1)); clear hb1 KE) | (go_at_call 19; (with_reducible refine (KC.out _ H1.out.2).mono ?_); rintro e w2 ⟨rfl, hb2⟩; have H2 := Aside0.mk (And.intro (H1.out.1.trans (hb2.mono H1.out.1.size)) (H1.out.2.below hb2)); clear hb2 KC) | (go_at_call 21; (with_reducible refine (KD.out _ H2.out.2).mono ?_); rintro e w3 ⟨rfl, hb3⟩; have H3 := Aside0.mk (And.intro (H2.out.1.trans (hb3.mono H2.out.1.size)) (H2.out.2.below hb3)); clear hb3 KD) | (go_at_call 21; (with_reducible refine (KD2.out _ H3.out.2).mono ?_); rintro e w4 ⟨rfl, hb4⟩; have H4 := Aside0.mk (H3.out.1.trans (hb4.mono H3.out.1.size)); clear hb4 KD2) | (go_at_call 16; (with_reducible refine (KT.out _).mono ?_); rintro e w9 ⟨rfl, hb9⟩))
    go_ret
    exact ⟨rfl, H4.out.trans (hb9.mono H4.out.size)⟩
  ·have KE := Aside0.mk (fun (W : World) (h : Strs W A l) => cbN_calls A n cap l (b : Int) s0 W HN.out h hs5 hk)
   generalize cchkF l (b : Int) = k at *
   have t0 : (k != 0) = true := bne_iff_ne.2 hk
   clear hk
   go_wp2_with (first | (go_at_call 17; (with_reducible refine (KE.out _ hst).mono ?_); rintro e w1 ⟨rfl, hb1⟩; have H1 := Aside0.mk (And.intro hb1 (hst.below hb1)); clear hb1 KE) | (go_at_call 19; (with_reducible refine (KC.out _ H1.out.2).mono ?_); rintro e w2 ⟨rfl, hb2⟩; have H2 := Aside0.mk (And.intro (H1.out.1.trans (hb2.mono H1.out.1.size)) (H1.out.2.below hb2)); clear hb2 KC) | (go_at_call 16; (with_reducible refine (KT.out _).mono ?_); rintro e w9 ⟨rfl, hb9⟩))
   go_ret
   exact ⟨rfl, H2.out.1.trans (hb9.mono H2.out.1.size)⟩
 ·obtain rfl : a = 0 := by omega
  have q3 : decide ((0 : Int) < (0 : Int)) = false := by decide
  have hs5 : s.size ≤ 500 := by omega
  have hd0 : (0 : Int) < (0 : Int) → s.size % (0 : Int).toNat = 0 := fun h => absurd h (by decide)
  go_enter Tryz.func7, Tryz.ntmps7
  go_upto_region 6 with fail
  have KC := Aside0.mk (fun (W : World) (h : Strs W A l) => ccheck_calls A n cap l 0 W HN.out h)
  by_cases hk : cchkF l 0 = 0
  ·rw [hk] at KC
   have KE := Aside0.mk (fun (W : World) (h : Strs W A l) => cbE_calls A n cap l 0 s W HN.out h (by omega) (by omega) hs5 hd0 hk)
   have KD := Aside0.mk (fun (W : World) (h : Strs W A l) => cbD_calls A n cap l 0 (s.size : Int) s W HN.out h (by omega) (by omega) hs5 hd0 hk (by omega) (Int.le_refl _) (by omega))
   simp only [Int.lt_irrefl, if_false] at KD
   by_cases he : s.size = 0
   ·have t0 : (s.toList == ([] : List UInt8)) = true := beq_iff_eq.2 ((toList_bytes _).2 he)
    generalize foldOn onA l (preP s 0) = E at *
    clear he hk
    go_wp2_with (first | (go_at_call 17; (with_reducible refine (KE.out _ hst).mono ?_); rintro e w1 ⟨rfl, hb1⟩; have H1 := Aside0.mk (And.intro hb1 (hst.below hb1)); clear hb1 KE) | (go_at_call 19; (with_reducible refine (KC.out _ H1.out.2).mono ?_); rintro e w2 ⟨rfl, hb2⟩; have H2 := Aside0.mk (And.intro (H1.out.1.trans (hb2.mono H1.out.1.size)) (H1.out.2.below hb2)); clear hb2 KC) | (go_at_call 21; (with_reducible refine (KD.out _ H2.out.2).mono ?_); rintro e w3 ⟨rfl, hb3⟩; have H3 := Aside0.mk (And.intro (H2.out.1.trans (hb3.mono H2.out.1.size)) (H2.out.2.below hb3)); clear hb3 KD) | (go_at_call 16; (with_reducible refine (KT.out _).mono ?_); rintro e w9 ⟨rfl, hb9⟩))
    go_ret
    exact ⟨rfl, H3.out.1.trans (hb9.mono H3.out.1.size)⟩
   ·have t0 : (s.toList == ([] : List UInt8)) = false := beq_false_of_ne (fun h => he ((toList_bytes _).1 h))
    obtain ⟨z, hz1⟩ : ∃ z : Int, z = (s.size : Int) - 1 := ⟨_, rfl⟩
    have KD2 := Aside0.mk (fun (W : World) (h : Strs W A l) => cbD_calls A n cap l 0 z s W HN.out h (by omega) (by omega) hs5 hd0 hk (by omega) (by omega) (by omega))
    simp only [if_pos (show z < (s.size : Int) by omega)] at KD2
    have hz2 := hz1.symm
    generalize foldOn onA l (preP s 0) = E at *
    clear he hk hz1
    go_wp2_with (first | (go_at_call 17; (with_reducible refine (KE.out _ hst).mono ?_); rintro e w1 ⟨rfl, hb1⟩; have H1 := Aside0.mk (And.intro hb1 (hst.below hb1)); clear hb1 KE) | (go_at_call 19; (with_reducible refine (KC.out _ H1.out.2).mono ?_); rintro e w2 ⟨rfl, hb2⟩; have H2 := Aside0.mk (And.intro (H1.out.1.trans (hb2.mono H1.out.1.size)) (H1.out.2.below hb2)); clear hb2 KC) | (go_at_call 21; (with_reducible refine (KD.out _ H2.out.2).mono ?_); rintro e w3 ⟨rfl, hb3⟩; have H3 := Aside0.mk (And.intro (H2.out.1.trans (hb3.mono H2.out.1.size)) (H2.out.2.below hb3)); clear hb3 KD) | (go_at_call 21; (with_reducible refine (KD2.out _ H3.out.2).mono ?_); rintro e w4 ⟨rfl, hb4⟩; have H4 := Aside0.mk (H3.out.1.trans (hb4.mono H3.out.1.size)); clear hb4 KD2) | (go_at_call 16; (with_reducible refine (KT.out _).mono ?_); rintro e w9 ⟨rfl, hb9⟩))
    go_ret
    exact ⟨rfl, H4.out.trans (hb9.mono H4.out.size)⟩
  ·have KE := Aside0.mk (fun (W : World) (h : Strs W A l) => cbN_calls A n cap l 0 s W HN.out h hs5 hk)
   generalize cchkF l 0 = k at *
   have t0 : (k != 0) = true := bne_iff_ne.2 hk
   clear hk
   go_wp2_with (first | (go_at_call 17; (with_reducible refine (KE.out _ hst).mono ?_); rintro e w1 ⟨rfl, hb1⟩; have H1 := Aside0.mk (And.intro hb1 (hst.below hb1)); clear hb1 KE) | (go_at_call 19; (with_reducible refine (KC.out _ H1.out.2).mono ?_); rintro e w2 ⟨rfl, hb2⟩; have H2 := Aside0.mk (And.intro (H1.out.1.trans (hb2.mono H1.out.1.size)) (H1.out.2.below hb2)); clear hb2 KC) | (go_at_call 16; (with_reducible refine (KT.out _).mono ?_); rintro e w9 ⟨rfl, hb9⟩))
   go_ret
   exact ⟨rfl, H2.out.1.trans (hb9.mono H2.out.1.size)⟩
end Go.Proofs.YtghoifkaikddlaaGreat.Hand
