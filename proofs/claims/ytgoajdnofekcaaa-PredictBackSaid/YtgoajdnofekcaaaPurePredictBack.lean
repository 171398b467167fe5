/- predict.Decode tells again what Encode told, and rows whose kinds are 0 are themselves (at most 5000 bytes), and the page's examples come out. -/
import Derived.Test.YtgoajdnofekcaaaP13x3
import Derived.Test.YtgoajdnofekcaaaLem13
namespace Go.Proofs.Ytgoajdnofekcaaa.Pure
set_option linter.unusedVariables false
open Go.RowKit Go.Proofs.Ytgoajdnofekcaaa.P13 Go.Proofs.YtgoajdnofekcaaaW.PrintWords Go.Proofs.YtgoajdnofekcaaaW.PrintLast Go.Proofs.Ytgoajdnofekcaaa.Hand Go.Proofs.Ytgoajdnofekcaaa.Num Go.Proofs.Ytgoajdnofekcaaa.Lem13

theorem bt_getD (s : ByteArray) (i : Nat) : bt s (i : Int) = (bytesOf s).getD i 0 := by
  rw [List.getD_eq_getElem?_getD, bytesOf_get?]
  split
  · rfl
  · rename_i h
    unfold bt
    rw [dif_neg (by rw [Int.toNat_natCast]; exact h)]
    rfl
theorem bt_str (l : List Int) (hl : ∀ x ∈ l, 0 ≤ x ∧ x < 256) (i : Nat) : bt (strOfNums l) (i : Int) = l.getD i 0 := by rw [bt_getD, bytesOf_strOfNums l hl]
/-- Row r of a string. -/
def rowOf (S : ByteArray) (n r : Nat) : List Int := ((bytesOf S).drop (n * r)).take n
theorem rowOf_getD (S : ByteArray) (n r c : Nat) (h : c < n) : (rowOf S n r).getD c 0 = bt S ((n * r + c : Nat) : Int) := by
  rw [bt_getD, List.getD_eq_getElem?_getD, List.getD_eq_getElem?_getD, rowOf, List.getElem?_take, if_pos h, List.getElem?_drop]
theorem rowOf_length (S : ByteArray) (n r b : Nat) (hb : S.size = n * b) (hr : r < b) : (rowOf S n r).length = n := by
  have : n * (r + 1) ≤ n * b := Nat.mul_le_mul_left n (by omega)
  have h2 : n * (r + 1) = n * r + n := Nat.mul_succ n r
  rw [rowOf, List.length_take, List.length_drop, bytesOf_length]; omega
theorem rowOf_range (S : ByteArray) (n r : Nat) : ∀ x ∈ rowOf S n r, 0 ≤ x ∧ x < 256 := fun x hx => bytes_range S x (List.mem_of_mem_drop (List.mem_of_mem_take hx))
theorem take_row (S : ByteArray) (n r : Nat) : (bytesOf S).take (n * (r + 1)) = (bytesOf S).take (n * r) ++ rowOf S n r := by
  rw [rowOf, Nat.mul_succ, List.take_add]
/-- The row above row r. -/
def aboveOf (S : ByteArray) (n r : Nat) : List Int := if r = 0 then List.replicate n 0 else rowOf S n (r - 1)
theorem aboveOf_getD (S : ByteArray) (n r c : Nat) (h : c < n) : (aboveOf S n r).getD c 0 = aboveB S n (n * r + c) := by
  unfold aboveOf aboveB
  by_cases h0 : r = 0
  · subst h0
    rw [if_pos rfl, if_neg (by omega), List.getD_eq_getElem?_getD, List.getElem?_replicate, if_pos h]; rfl
  · have : n * 1 ≤ n * r := Nat.mul_le_mul_left n (by omega)
    rw [if_neg h0, rowOf_getD S n (r - 1) c h, if_pos (by omega), Nat.mul_sub, show n * r - n * 1 + c = n * r + c - n by omega]
/-- A row of one kind is told. -/
theorem row_tells (K : Int) (xs ys ab : List Int) (n : Nat) (hK : 0 ≤ K ∧ K < 256) (hxl : xs.length = n) (hyl : ys.length = n) (hx : ∀ x ∈ xs, 0 ≤ x ∧ x < 256)
    (hg : ∀ i : Nat, i < n → ∀ a c, ∃ g, guessF K a (ab.getD i 0) c = some g ∧ (xs.getD i 0 + g) % 256 = ys.getD i 0) : ∀ i : Nat, i ≤ n → rowF (strOfNums (K :: xs)) ab i = some (ys.take i) := by
  have hr : ∀ x ∈ K :: xs, 0 ≤ x ∧ x < 256 := fun x hx' => by
    rcases List.mem_cons.1 hx' with rfl | h
    · exact hK
    · exact hx x h
  have h0 : bt (strOfNums (K :: xs)) 0 = K := bt_str _ hr 0
  intro i
  induction i with
  | zero => intro _; rw [rowF, List.take_zero]
  | succ i ih =>
    intro hi
    obtain ⟨g, h1, h2⟩ := hg i (by omega) (if i = 0 then 0 else (ys.take i).getD (i - 1) 0) (if i = 0 then 0 else ab.getD (i - 1) 0)
    have h3 : bt (strOfNums (K :: xs)) ((i + 1 : Nat) : Int) = xs.getD i 0 := bt_str _ hr (i + 1)
    rw [rowF, ih (by omega), Option.bind_some, h0, h1, Option.map_some, h3, h2, List.take_add_one, List.getD_eq_getElem?_getD, List.getElem?_eq_getElem (show i < ys.length by omega)]
    rfl
theorem str_app (a b : List Int) : strOfNums (a ++ b) = strOfNums a ++ strOfNums b := by
  apply ByteArray.ext
  rw [ByteArray.data_append]
  apply Array.toList_inj.1
  rw [Array.toList_append, strOfNums_data, strOfNums_data, strOfNums_data, List.map_append]
theorem str_size (l : List Int) : (strOfNums l).size = l.length := by rw [size_data, strOfNums_data, List.length_map]
theorem ext_left (a b : ByteArray) : (a ++ b).extract 0 a.size = a := by
  apply ByteArray.ext
  rw [ByteArray.data_extract, ByteArray.data_append, ← ByteArray.size_data]
  simp
theorem ext_right (a b : ByteArray) : (a ++ b).extract a.size (a ++ b).size = b := by
  apply ByteArray.ext
  rw [ByteArray.data_extract, ByteArray.size_append, ByteArray.data_append]
  simp [← ByteArray.size_data]
/-- Rows that are told one by one come back. -/
theorem rows_back (S : ByteArray) (n b : Nat) (hn : 1 ≤ n ∧ n ≤ 256) (hS : S.size ≤ 5000) (hb : S.size = n * b) (R : Nat → List Int) (hR : ∀ r, r < b → (R r).length = n + 1 ∧ rowF (strOfNums (R r)) (aboveOf S n r) n = some (rowOf S n r)) :
    ∀ (d r : Nat), r + d = b → Ev (fun k => pdecL k (strOfNums ((List.range' r d).flatMap R)) (aboveOf S n r) ((bytesOf S).take (n * r)) n) (S, 0) := by
  have hbb : b ≤ 5000 := by
    have : 1 * b ≤ n * b := Nat.mul_le_mul_right b (by omega)
    omega
  intro d
  induction d with
  | zero =>
    intro r hr
    have er : r = b := by omega
    refine ev_one (fun k => ?_)
    have hlen : ((bytesOf S).take (n * r)).length ≤ 5000 := by rw [List.length_take, bytesOf_length]; omega
    simp only [pdecL, List.range'_zero, List.flatMap_nil]
    rw [if_pos ⟨by rw [str_size]; decide, by omega⟩, if_pos (by rw [str_size]; rfl), er, ← hb, ← bytesOf_length, List.take_length, strOfNums_bytesOf]
  | succ d ih =>
    intro r hr
    have e := ih (r + 1) (by omega)
    obtain ⟨l1, l2⟩ := hR r (by omega)
    refine ev_step e (fun k => ?_)
    have hlen : ((bytesOf S).take (n * r)).length ≤ 5000 := by rw [List.length_take, bytesOf_length]; omega
    have hfl : ∀ d r : Nat, r + d ≤ b → ((List.range' r d).flatMap R).length = d * (n + 1) := by
      intro d
      induction d with
      | zero => intro r _; simp
      | succ d ih2 => intro r h; rw [List.range'_succ, List.flatMap_cons, List.length_append, ih2 (r + 1) (by omega), (hR r (by omega)).1, Nat.succ_mul]; omega
    have hsz : ((List.range' (r + 1) d).flatMap R).length ≤ 900000 := by
      rw [hfl d (r + 1) (by omega)]
      have h1 : d * (n + 1) ≤ b * (n + 1) := Nat.mul_le_mul_right _ (by omega)
      have h2 : b * (n + 1) = n * b + b := by rw [Nat.mul_succ, Nat.mul_comm]
      omega
    rw [List.range'_succ, List.flatMap_cons, str_app]
    have hz : (strOfNums (R r) ++ strOfNums ((List.range' (r + 1) d).flatMap R)).size = n + 1 + ((List.range' (r + 1) d).flatMap R).length := by rw [ByteArray.size_append, str_size, str_size, l1]
    have hx1 : (strOfNums (R r) ++ strOfNums ((List.range' (r + 1) d).flatMap R)).extract 0 (n + 1) = strOfNums (R r) := by
      have := ext_left (strOfNums (R r)) (strOfNums ((List.range' (r + 1) d).flatMap R))
      rwa [str_size, l1] at this
    have hx2 : (strOfNums (R r) ++ strOfNums ((List.range' (r + 1) d).flatMap R)).extract (n + 1) (strOfNums (R r) ++ strOfNums ((List.range' (r + 1) d).flatMap R)).size = strOfNums ((List.range' (r + 1) d).flatMap R) := by
      have := ext_right (strOfNums (R r)) (strOfNums ((List.range' (r + 1) d).flatMap R))
      rwa [str_size (R r), l1] at this
    simp only [pdecL]
    rw [if_pos ⟨by omega, by omega⟩, if_neg (by omega), if_pos (by omega), hx1, hx2, l2]
    simp only
    rw [← take_row, show aboveOf S n (r + 1) = rowOf S n r by unfold aboveOf; rw [if_neg (by omega)]; rfl]
/-- What Encode tells is a list of rows of kind 2. -/
def R2 (S : ByteArray) (n r : Nat) : List Int := 2 :: (List.range n).map (fun c => (bt S ((n * r + c : Nat) : Int) - aboveB S n (n * r + c)) % 256)
def R0 (S : ByteArray) (n r : Nat) : List Int := 0 :: rowOf S n r
theorem outJ_rows (S : ByteArray) (n r : Nat) (hn : 1 ≤ n) : ∀ j, j ≤ n → outJ S n (n * r) j = pencTo S n (n * r) ++ (2 :: (List.range j).map (fun c => (bt S ((n * r + c : Nat) : Int) - aboveB S n (n * r + c)) % 256)) := by
  intro j
  induction j with
  | zero => intro _; rfl
  | succ j ih => intro hj; rw [outJ_succ S n (n * r) j (Nat.mul_mod_right n r) (by omega), ih (by omega), List.range_succ, List.map_append, List.append_assoc]; rfl
theorem penc_rows (S : ByteArray) (n : Nat) (hn : 1 ≤ n) : ∀ b, pencTo S n (n * b) = (List.range b).flatMap (R2 S n) := by
  intro b
  induction b with
  | zero => rfl
  | succ b ih =>
    have := outJ_rows S n b hn n (Nat.le_refl _)
    rw [outJ, if_neg (by omega), ← Nat.mul_succ, ih] at this
    rw [this, List.range_succ, List.flatMap_append]
    simp [R2]
theorem r2_tells (S : ByteArray) (n b r : Nat) (hn : 1 ≤ n) (hb : S.size = n * b) (hr : r < b) : (R2 S n r).length = n + 1 ∧ rowF (strOfNums (R2 S n r)) (aboveOf S n r) n = some (rowOf S n r) := by
  refine ⟨by simp [R2], ?_⟩
  have := row_tells 2 ((List.range n).map (fun c => (bt S ((n * r + c : Nat) : Int) - aboveB S n (n * r + c)) % 256)) (rowOf S n r) (aboveOf S n r) n (by omega) (by simp) (rowOf_length S n r b hb hr) (fun x hx => by
      obtain ⟨c, _, rfl⟩ := List.mem_map.1 hx
      omega) (fun i hi a c => by
      have hbr := Lem13.bt_range S ((n * r + i : Nat) : Int)
      refine ⟨aboveB S n (n * r + i), by rw [← aboveOf_getD S n r i hi]; rfl, ?_⟩
      rw [rowOf_getD S n r i hi, List.getD_eq_getElem?_getD, List.getElem?_map, List.getElem?_range hi]
      simp only [Option.map_some, Option.getD_some]
      omega) n (Nat.le_refl _)
  rw [List.take_of_length_le (by rw [rowOf_length S n r b hb hr]; omega)] at this
  exact this
theorem r0_tells (S : ByteArray) (n b r : Nat) (hn : 1 ≤ n) (hb : S.size = n * b) (hr : r < b) : (R0 S n r).length = n + 1 ∧ rowF (strOfNums (R0 S n r)) (aboveOf S n r) n = some (rowOf S n r) := by
  refine ⟨by simp [R0, rowOf_length S n r b hb hr], ?_⟩
  have := row_tells 0 (rowOf S n r) (rowOf S n r) (aboveOf S n r) n (by omega) (rowOf_length S n r b hb hr) (rowOf_length S n r b hb hr) (rowOf_range S n r) (fun i hi a c => by
      have hbr := getD_range (rowOf_range S n r) i
      exact ⟨0, rfl, by omega⟩) n (Nat.le_refl _)
  rw [List.take_of_length_le (by rw [rowOf_length S n r b hb hr]; omega)] at this
  exact this
theorem dec_back (S : ByteArray) (n b : Nat) (hn : 1 ≤ n ∧ n ≤ 256) (hS : S.size ≤ 5000) (hb : S.size = n * b) (R : Nat → List Int) (hR : ∀ r, r < b → (R r).length = n + 1 ∧ rowF (strOfNums (R r)) (aboveOf S n r) n = some (rowOf S n r)) :
    Ev (fun k => predict_Decode.f k (strOfNums ((List.range b).flatMap R)) n) (S, 0) ∧ (strOfNums ((List.range b).flatMap R)).size = b * (n + 1) := by
  have hfl : ∀ d : Nat, d ≤ b → ((List.range d).flatMap R).length = d * (n + 1) := by
    intro d
    induction d with
    | zero => intro _; simp
    | succ d ih2 => intro h; rw [List.range_succ, List.flatMap_append, List.length_append, ih2 (by omega), List.flatMap_cons, List.flatMap_nil, List.append_nil, (hR d (by omega)).1, Nat.succ_mul]
  have hbb : b ≤ 5000 := by
    have : 1 * b ≤ n * b := Nat.mul_le_mul_right b (by omega)
    omega
  have hz : (strOfNums ((List.range b).flatMap R)).size = b * (n + 1) := by rw [str_size, hfl b (Nat.le_refl _)]
  have h2 : b * (n + 1) = n * b + b := by rw [Nat.mul_succ, Nat.mul_comm]
  refine ⟨?_, hz⟩
  obtain ⟨K, e⟩ := rows_back S n b hn hS hb R hR b 0 (by omega)
  refine ⟨K, fun k hk => ?_⟩
  have e1 := e k hk
  dsimp only at e1 ⊢
  unfold predict_Decode.f
  rw [Nat.mul_zero, List.take_zero, ← List.range_eq_range'] at e1
  have hm : ((strOfNums ((List.range b).flatMap R)).size : Int) % ((n : Int) + 1) = 0 := by
    rw [hz, Int.natCast_mul, show ((n + 1 : Nat) : Int) = (n : Int) + 1 by omega]
    exact Int.mul_emod_left _ _
  rw [if_pos (by omega), if_pos (by omega), if_pos hm, Int.toNat_natCast]
  exact e1
/-- The law's loop. -/
theorem loop_ev (S : ByteArray) (n b : Nat) (hn : 1 ≤ n ∧ n ≤ 256) (hS : S.size ≤ 5000) (hb : S.size = n * b) (t : ByteArray) (ht : t.size = b * (n + 1)) :
    ∀ d r : Nat, r + d = b → Ev (fun k => binderylaw13_PredictBack.l0 k S n t 0 S 0 (strOfNums ((List.range r).flatMap (R0 S n))) ((n * r : Nat) : Int)) true := by
  obtain ⟨⟨K1, e1⟩, e2⟩ := dec_back S n b hn hS hb (R0 S n) (fun r hr => r0_tells S n b r hn.1 hb hr)
  obtain ⟨K2, e3⟩ := rows_ev
  dsimp only at e1
  have hbb : b ≤ 5000 := by
    have : 1 * b ≤ n * b := Nat.mul_le_mul_right b (by omega)
    omega
  have hfl : ∀ d : Nat, d ≤ b → ((List.range d).flatMap (R0 S n)).length = d * (n + 1) := by
    intro d
    induction d with
    | zero => intro _; simp
    | succ d ih2 => intro h; rw [List.range_succ, List.flatMap_append, List.length_append, ih2 (by omega), List.flatMap_cons, List.flatMap_nil, List.append_nil, (r0_tells S n b d hn.1 hb (by omega)).1, Nat.succ_mul]
  intro d
  induction d with
  | zero =>
    intro r hr
    have er : r = b := by omega
    rw [er]
    refine ⟨K1 + K2 + 1, fun k hk => ?_⟩
    obtain ⟨k, rfl⟩ : ∃ m, k = m + 1 := ⟨k - 1, by omega⟩
    simp only [binderylaw13_PredictBack.l0]
    rw [if_neg (by omega), e1 k (by omega), Option.bind_some]
    simp only
    rw [if_pos trivial, if_pos trivial, if_pos trivial, if_pos trivial, if_pos trivial, if_pos (by rw [ht, e2]), e3 k (by omega)]
    rfl
  | succ d ih =>
    intro r hr
    have hle : n * (r + 1) ≤ n * b := Nat.mul_le_mul_left n (by omega)
    have hm1 : n * (r + 1) = n * r + n := Nat.mul_succ n r
    have hsz : (strOfNums ((List.range r).flatMap (R0 S n))).size = r * (n + 1) := by rw [str_size, hfl r (by omega)]
    have h3 : r * (n + 1) ≤ b * (n + 1) := Nat.mul_le_mul_right _ (by omega)
    have h4 : b * (n + 1) = n * b + b := by rw [Nat.mul_succ, Nat.mul_comm]
    refine ev_step (ih (r + 1) (by omega)) (fun k => ?_)
    simp only [binderylaw13_PredictBack.l0]
    have ew : ((n * r : Nat) : Int) + (n : Int) = ((n * (r + 1) : Nat) : Int) := by omega
    rw [if_pos (by omega), if_pos (by omega), if_pos (by omega), ew, w64 (by omega) (by omega), if_pos (by omega), if_pos (by omega), Int.toNat_natCast, Int.toNat_natCast]
    have hx : (S.extract (n * r) (n * (r + 1))).size = n := by rw [ByteArray.size_extract]; omega
    have hr0 : strOfNums (R0 S n r) = (⟨#[0]⟩ : ByteArray) ++ S.extract (n * r) (n * (r + 1)) := by
      have h5 : S.extract (n * r) (n * (r + 1)) = strOfNums (rowOf S n r) := by
        apply bytes_ext
        rw [bytesOf_strOfNums _ (rowOf_range S n r), bytesOf_extract, rowOf, hm1, List.take_add, List.drop_left']
        rw [List.length_take, bytesOf_length]; omega
      rw [h5]
      exact str_app [0] (rowOf S n r)
    rw [if_pos (by rw [ByteArray.size_append, hx, hsz, show (⟨#[0]⟩ : ByteArray).size = 1 from rfl]; omega), List.range_succ, List.flatMap_append, List.flatMap_cons, List.flatMap_nil, List.append_nil, str_app, hr0, ByteArray.append_assoc]
theorem PredictBack : binderylaw13_PredictBack.Pure := by
  intro s a hs ha
  obtain ⟨K2, h2⟩ := rows_ev
  have ha2 : 0 ≤ a ∧ a ≤ 255 := by
    simp [Lit.wf, IntKind.min, IntKind.max, IntKind.bits, IntKind.signed] at ha
    omega
  unfold binderylaw13_PredictBack.f
  by_cases h0 : (s.size : Int) > 5000
  · exact ⟨K2, by rw [if_pos h0, h2 _ (by omega)]; rfl⟩
  · obtain ⟨n, hn⟩ := Int.eq_ofNat_of_zero_le (show 0 ≤ a + 1 by omega)
    have hn2 : 1 ≤ n ∧ n ≤ 256 := by omega
    obtain ⟨b, hb⟩ : ∃ b, b = s.size / n := ⟨_, rfl⟩
    have hb1 : n * b ≤ s.size := by rw [hb]; exact Nat.mul_div_le _ _
    obtain ⟨S, hS⟩ : ∃ S, S = s.extract 0 (n * b) := ⟨_, rfl⟩
    have hSz : S.size = n * b := by rw [hS, ByteArray.size_extract]; omega
    have hdiv : (s.size : Int) / (n : Int) = (b : Int) := by rw [hb]; rfl
    have hbs : b ≤ s.size := by rw [hb]; exact Nat.div_le_self _ _
    have hmul : (b : Int) * (n : Int) = ((n * b : Nat) : Int) := by rw [Int.natCast_mul, Int.mul_comm]
    obtain ⟨K1, e1⟩ := enc_good S n hn2 (by omega) (by rw [hSz]; exact Nat.mul_mod_right n b)
    rw [hSz, penc_rows S n hn2.1 b] at e1
    obtain ⟨⟨K3, e3⟩, hz⟩ := dec_back S n b hn2 (by omega) hSz (R2 S n) (fun r hr => r2_tells S n b r hn2.1 hSz hr)
    obtain ⟨K4, e4⟩ := loop_ev S n b hn2 (by omega) hSz _ hz b 0 (by omega)
    dsimp only at e1 e3 e4
    refine ⟨K1 + K3 + K4, ?_⟩
    rw [if_neg h0, w64 (x := a) (by omega) (by omega), w64 (x := a + 1) (by omega) (by omega), hn, if_neg (by omega), hdiv, w64 (x := (b : Int)) (by omega) (by omega), hmul, w64 (x := ((n * b : Nat) : Int)) (by omega) (by omega), if_pos (by omega), if_pos (by omega), Int.toNat_natCast, ← hS,
      e1 _ (by omega), Option.bind_some]
    dsimp only
    rw [e3 _ (by omega), Option.bind_some]
    exact e4 _ (by omega)

end Go.Proofs.Ytgoajdnofekcaaa.Pure
