/- What is wrapped, in plain numbers: unwrapped, cut off, turned, with less room. -/
import Derived.Test.YtbgdadehjnifeaaHand12b
import Derived.Test.YtbgdadehjnifeaaLem11b
namespace Go.Proofs.Ytbgdadehjnifeaa.Hand
open Go.RowKit Go.Proofs.YtbgdadehjnifeaaW.PrintWords Go.Proofs.YtbgdadehjnifeaaW.PrintLast Go.Proofs.YtbgdadehjnifeaaW.PrintMore Go.Proofs.Ytbgdadehjnifeaa.Num Go.Proofs.Ytbgdadehjnifeaa.Bits
set_option linter.unusedVariables false
set_option linter.unusedSimpArgs false
set_option maxRecDepth 100000
theorem strOf_inj {o : List Int} {s : ByteArray} (h : strOfNums o = s) (ho : ∀ x ∈ o, 0 ≤ x ∧ x < 256) : o = bytesOf s := by rw [← h, bytesOf_strOfNums o ho]
/-- What the best way tells: how far it was read. -/
theorem best_inf (s : ByteArray) (hs : s.size ≤ 65535) : ∃ p o, infM bigK (bestF s) (s.size : Int) 0 [] = .ok () p o ∧ strOfNums o = s ∧ rdAt p = (bestF s).size ∧ p ≤ 8 * (bestF s).size ∧ o.length = s.size := by
  have hb := best_back s hs
  rcases inflF_cases (bestF s) (s.size : Int) (by omega) with ⟨e, he, _, hr⟩ | ⟨p, o, hi, hr, hp1, hp2, ho⟩
  · rw [hr] at hb
    injection hb with _ h2
    injection h2 with _ h3
    exact absurd h3 he
  · rw [hr] at hb
    injection hb with h1 h2
    injection h2 with h2 _
    refine ⟨p, o, hi, h1, by omega, hp2, ?_⟩
    rw [← strOfNums_size, h1]
theorem ext_left (a b : ByteArray) (c : Nat) (h : c ≤ a.size) : (a ++ b).extract 0 c = a.extract 0 c := by
  apply bytes_ext
  rw [bytesOf_extract, bytesOf_extract, show bytesOf (a ++ b) = bytesOf a ++ bytesOf b by unfold bytesOf; rw [ByteArray.data_append, Array.toList_append, List.map_append], List.drop_zero, List.drop_zero, List.take_append_of_le_length (by rw [bytesOf_length]; exact h)]
theorem bytes_app (a b : ByteArray) : bytesOf (a ++ b) = bytesOf a ++ bytesOf b := by unfold bytesOf; rw [ByteArray.data_append, Array.toList_append, List.map_append]
theorem ext_mid (a b : ByteArray) (c : Nat) (h : a.size ≤ c) : (a ++ b).extract 0 c = a ++ b.extract 0 (c - a.size) := by
  apply bytes_ext
  rw [bytes_app, bytesOf_extract, bytesOf_extract, bytes_app, List.drop_zero, List.drop_zero, List.take_append, List.take_of_length_le (by rw [bytesOf_length]; exact h), bytesOf_length]
theorem ext_right (a b : ByteArray) : (a ++ b).extract a.size (a ++ b).size = b := by
  apply bytes_ext
  rw [bytesOf_extract, bytes_app, List.take_of_length_le (by rw [List.length_append, bytesOf_length, bytesOf_length, ByteArray.size_append]; exact Nat.le_refl _)]
  exact List.drop_left' (by rw [bytesOf_length])
/-- What is told behind a body: bytes and where they end. -/
theorem body_inf (s z : ByteArray) (hs : s.size ≤ 65535) : inflF (bestF s ++ z) (s.size : Int) = (s, ((bestF s).size : Int), 0) := by
  obtain ⟨p, o, hi, h1, h2, h3, _⟩ := best_inf s hs
  have h := inflF_more (s := bestF s) (n := (bestF s).size) z (by omega) hi h3 (Nat.le_refl _)
  rw [ByteArray.extract_zero_size] at h
  rw [h, h1, h2]
theorem body_big (s z : ByteArray) (hs : s.size ≤ 65535) (h0 : s.size ≠ 0) : inflF (bestF s ++ z) ((s.size : Int) - 1) = (⟨#[]⟩, 0, 7) := by
  obtain ⟨p, o, hi, h1, h2, h3, h4⟩ := best_inf s hs
  have hc := (Good.inf bigK).cut (bestF s ++ z) (Nat.zero_le _) hi (agree_more (bestF s) z) (Nat.zero_le _)
  rw [ByteArray.size_append, if_pos (by omega)] at hc
  have h := inflF_room ((s.size : Int) - 1) (by omega) hc (by omega)
  rw [h, if_neg (by omega)]
theorem body_short (s : ByteArray) (c : Nat) (hs : s.size ≤ 65535) (hc : c < (bestF s).size) : inflF ((bestF s).extract 0 c) (s.size : Int) = (⟨#[]⟩, 0, 5) := by
  obtain ⟨p, o, hi, h1, h2, h3, h4⟩ := best_inf s hs
  refine inflF_short (by omega) hi ?_ (by omega)
  unfold rdAt at h2
  omega
/-- A text that begins with the head. -/
theorem head_ok (b : ByteArray) : headE (zhead ++ b) = 0 := by
  have hz : (zhead ++ b).size = 2 + b.size := by rw [ByteArray.size_append]; rfl
  have e0 : bt (zhead ++ b) 0 = 120 := by rw [bt_cat_left _ _ _ (by decide)]; rfl
  have e1 : bt (zhead ++ b) 1 = 1 := by rw [bt_cat_left _ _ _ (by decide)]; rfl
  unfold headE
  rw [if_neg (by omega), e0, e1]
  decide
theorem head_body (b : ByteArray) : (zhead ++ b).extract 2 (zhead ++ b).size = b := ext_right zhead b
theorem unwrap_of (s z : ByteArray) (hs : s.size ≤ 65535) : unwrapF (zhead ++ (bestF s ++ z)) (s.size : Int) = if tailE z s = 0 then (s, 0) else (⟨#[]⟩, tailE z s) := by
  unfold unwrapF
  rw [if_neg (by omega), if_pos (head_ok _), head_body, body_inf s z hs]
  dsimp only
  rw [if_pos rfl, Int.toNat_natCast, ext_right]
theorem tail_ok (s : ByteArray) : tailE (tailF s) s = 0 := by
  have h4 := tailF_size s
  unfold tailE
  rw [if_neg (by omega), if_neg (fun h => h (by rw [← h4]; exact ByteArray.extract_zero_size)), if_neg (fun h => h h4)]
theorem wrap_eq (s : ByteArray) : wrapF s = zhead ++ (bestF s ++ tailF s) := by unfold wrapF; rw [ByteArray.append_assoc]
theorem unwrap_wrap (s : ByteArray) (hs : s.size ≤ 65535) : unwrapF (wrapF s) (s.size : Int) = (s, 0) := by
  rw [wrap_eq, unwrap_of s _ hs, if_pos (tail_ok s)]
theorem unwrap_big (s : ByteArray) (hs : s.size ≤ 65535) (h0 : s.size ≠ 0) : unwrapF (wrapF s) ((s.size : Int) - 1) = (⟨#[]⟩, 7) := by
  rw [wrap_eq]
  unfold unwrapF
  rw [if_neg (by omega), if_pos (head_ok _), head_body, body_big s _ hs h0]
  rfl
theorem unwrap_cut (s : ByteArray) (hs : s.size ≤ 65535) (c : Nat) (hc : c < (wrapF s).size) : (unwrapF ((wrapF s).extract 0 c) (s.size : Int)).2 = 5 := by
  have h4 := tailF_size s
  have hz : (wrapF s).size = 2 + ((bestF s).size + 4) := by rw [wrap_eq, ByteArray.size_append, ByteArray.size_append, h4]; rfl
  have h2 : zhead.size = 2 := rfl
  by_cases hc2 : c < 2
  · unfold unwrapF
    have hh : headE ((wrapF s).extract 0 c) = 5 := by
      unfold headE
      rw [if_pos (by rw [ByteArray.size_extract]; omega)]
    rw [if_neg (by omega), hh, if_neg (by decide)]
  · rw [wrap_eq, ext_mid zhead _ c (by omega), h2]
    by_cases hb : c - 2 < (bestF s).size
    · rw [ext_left _ _ _ (by omega)]
      unfold unwrapF
      rw [if_neg (by omega), if_pos (head_ok _), head_body, body_short s _ hs hb]
      rfl
    · rw [ext_mid _ _ _ (by omega), unwrap_of s _ hs]
      have ht : tailE ((tailF s).extract 0 (c - 2 - (bestF s).size)) s = 5 := by
        unfold tailE
        rw [if_pos (by rw [ByteArray.size_extract]; omega)]
      rw [ht, if_neg (by decide)]
theorem fixG_ge (s : ByteArray) (k a : Nat) (ha : a ≤ s.size) : 7 ≤ (fixG s (k + 1) a).length := by
  have h7 : ∀ i, i < 288 → 7 ≤ (symB fixLit i).length := by
    intro i hi
    unfold symB
    rw [s_revB_length]
    have h : (List.range 288).all (fun i => decide (7 ≤ (fixLit.getD i 0).toNat)) = true := by decide +kernel
    simpa using List.all_eq_true.1 h i (List.mem_range.2 hi)
  rw [fixG]
  split
  · split
    · have hb := bt_byte s (a : Int)
      have := h7 (bt s (a : Int)).toNat (by omega)
      rw [List.length_append]; omega
    · rename_i h3
      have hl := (find_le s a ha).1
      have hc := (lens_ok (n := ((findF s a).1 : Int)) (by omega) (by omega)).1
      have := h7 (257 + codeF lensT (findF s a).1) (by omega)
      unfold copyB
      simp only [List.length_append]
      omega
  · exact h7 256 (by omega)
theorem best_ge (s : ByteArray) : 2 ≤ (bestF s).size := by
  have h1 : 2 ≤ (fixF s).size := by
    have := fixG_ge s s.size 0 (by omega)
    unfold fixF fixBits
    rw [textL_size]
    simp only [List.length_append, bitsN_length]
    omega
  have h2 : 5 ≤ (storeF s).size := by
    rw [storeF_size]
    unfold blocksN
    omega
  unfold bestF
  split <;> omega
/-- The text with one byte turned. -/
def setByte (s : ByteArray) (i : Nat) (v : Int) : ByteArray := strOfNums ((bytesOf s).set i v)
theorem setByte_size (s : ByteArray) (i : Nat) (v : Int) : (setByte s i v).size = s.size := by
  unfold setByte; rw [strOfNums_size, List.length_set, bytesOf_length]
theorem bt_setByte (s : ByteArray) (i : Nat) (v : Int) (hv0 : 0 ≤ v) (hv1 : v < 256) (hi : i < s.size) (j : Nat) (hj : j < s.size) : bt (setByte s i v) j = if j = i then v else bt s j := by
  have hsz : j < (setByte s i v).size := by rw [setByte_size]; exact hj
  rw [← rd_bytesOf]
  have hb : bytesOf (setByte s i v) = (bytesOf s).set i v := by
    unfold setByte bytesOf
    rw [strOfNums_data, List.map_map]
    apply List.ext_getElem (by simp)
    intro n h1 h2
    rw [List.getElem_map, List.getElem_set]
    have h3 : n < s.data.toList.length := by simpa using h1
    simp only [Function.comp]
    split
    · rename_i e
      subst e
      simp [UInt8.toNat_ofNat, Nat.mod_eq_of_lt (show v.toNat < 256 by omega)]
      omega
    · rename_i e
      simp
  rw [hb]
  split
  · rename_i e
    subst e
    unfold rd
    rw [Int.toNat_natCast, List.getD_eq_getElem?_getD, List.getElem?_set_self (by rw [bytesOf_length]; exact hj)]
    rfl
  · rename_i e
    unfold rd
    rw [Int.toNat_natCast, List.getD_eq_getElem?_getD, List.getElem?_set_ne (by omega), ← List.getD_eq_getElem?_getD]
    have := rd_bytesOf s j
    unfold rd at this
    rwa [Int.toNat_natCast] at this
theorem u8_xor' (x b : Int) (hx0 : 0 ≤ x) (hx1 : x < 256) (hb0 : 0 ≤ b) (hb1 : b < 256) : bits .xor .u8 x b = ((x.toNat ^^^ b.toNat : Nat) : Int) := by
  obtain ⟨m, rfl⟩ : ∃ m : Nat, x = (m : Int) := ⟨x.toNat, by omega⟩
  obtain ⟨n, rfl⟩ : ∃ n : Nat, b = (n : Int) := ⟨b.toNat, by omega⟩
  have hx : m ^^^ n < 2 ^ 8 := Nat.xor_lt_two_pow (by omega) (by omega)
  have h1 : (BitVec.ofInt 8 (m : Int)).toNat = m := by rw [BitVec.ofInt_natCast, BitVec.toNat_ofNat]; exact Nat.mod_eq_of_lt (by omega)
  have h2 : (BitVec.ofInt 8 (n : Int)).toNat = n := by rw [BitVec.ofInt_natCast, BitVec.toNat_ofNat]; exact Nat.mod_eq_of_lt (by omega)
  show IntKind.u8.wrap ((BitVec.ofInt 8 (m : Int) ^^^ BitVec.ofInt 8 (n : Int)).toNat : Int) = _
  rw [BitVec.toNat_xor, h1, h2, IntKind.wrap_u8]
  simp only [Int.toNat_natCast]
  omega
theorem xor_turned (x b : Int) (hx0 : 0 ≤ x) (hx1 : x < 256) (hb0 : 0 ≤ b) (hb1 : b < 256) : 0 ≤ bits .xor .u8 x b ∧ bits .xor .u8 x b < 256 ∧ (bits .xor .u8 x b = x ↔ b = 0) := by
  rw [u8_xor' x b hx0 hx1 hb0 hb1]
  have h1 : x.toNat ^^^ b.toNat < 256 := Nat.xor_lt_two_pow (n := 8) (by omega) (by omega)
  refine ⟨by omega, by omega, ?_⟩
  constructor
  · intro h
    have h2 : x.toNat ^^^ b.toNat = x.toNat := by omega
    have h3 : b.toNat = 0 := by
      have := congrArg (x.toNat ^^^ ·) h2
      simpa [← Nat.xor_assoc] using this
    omega
  · intro h
    subst h
    simp
    omega


theorem set_right (a b : List Int) (i : Nat) (v : Int) (h : a.length ≤ i) : (a ++ b).set i v = a ++ b.set (i - a.length) v := by
  rw [List.set_append_right _ _ h]
theorem turned_eq (a z : ByteArray) (i : Nat) (v : Int) (h : a.size ≤ i) : setByte (a ++ z) i v = a ++ setByte z (i - a.size) v := by
  unfold setByte
  rw [bytes_app, set_right _ _ _ _ (by rw [bytesOf_length]; exact h), bytesOf_length]
  apply ByteArray.ext
  apply Array.toList_inj.1
  rw [ByteArray.data_append, Array.toList_append, strOfNums_data, strOfNums_data, List.map_append]
  congr 1
  have := strOfNums_data (bytesOf a)
  rw [strOfNums_bytesOf] at this
  exact this.symm
theorem set_same (z : ByteArray) (j : Nat) (v : Int) (hj : j < z.size) (h0 : 0 ≤ v) (h1 : v < 256) : setByte z j v = z ↔ v = bt z j := by
  constructor
  · intro h
    have := bt_setByte z j v h0 h1 hj j hj
    rw [h, if_pos rfl] at this
    exact this.symm
  · intro h
    unfold setByte
    have hg : (bytesOf z)[j]? = some (bt z j) := by rw [bytesOf_get?, if_pos hj]
    have : (bytesOf z).set j v = bytesOf z := by
      apply List.ext_getElem?
      intro n
      rw [List.getElem?_set]
      split
      · rename_i e
        subst e
        rw [if_pos (by rw [bytesOf_length]; exact hj), hg, h]
      · rfl
    rw [this, strOfNums_bytesOf]
/-- With a byte of its sum turned it isn't. -/
theorem unwrap_turned (s : ByteArray) (hs : s.size ≤ 65535) (i : Nat) (b : Int) (hi : (wrapF s).size - 4 ≤ i) (hi2 : i < (wrapF s).size) (hb0 : 0 ≤ b) (hb1 : b < 256) :
    (unwrapF (setByte (wrapF s) i (bits .xor .u8 (bt (wrapF s) i) b)) (s.size : Int)).2 = if b = 0 then 0 else 6 := by
  have h4 := tailF_size s
  have hz : (wrapF s).size = 2 + ((bestF s).size + 4) := by rw [wrap_eq, ByteArray.size_append, ByteArray.size_append, h4]; rfl
  have hby := bt_byte (wrapF s) i
  obtain ⟨v0, v1, v2⟩ := xor_turned (bt (wrapF s) i) b hby.1 (by omega) hb0 (by omega)
  obtain ⟨v, hv⟩ : ∃ v, v = bits .xor .u8 (bt (wrapF s) i) b := ⟨_, rfl⟩
  rw [← hv] at v0 v1 v2 ⊢
  have hi3 : i - 2 - (bestF s).size < (tailF s).size := by omega
  have hbt : bt (wrapF s) i = bt (tailF s) ((i - 2 - (bestF s).size : Nat) : Int) := by
    have e1 := bt_cat_right zhead (bestF s ++ tailF s) (i - 2) (by rw [ByteArray.size_append]; omega)
    have e2 := bt_cat_right (bestF s) (tailF s) (i - 2 - (bestF s).size) hi3
    rw [show zhead.size = 2 from rfl, show 2 + (i - 2) = i by omega] at e1
    rw [show (bestF s).size + (i - 2 - (bestF s).size) = i - 2 by omega] at e2
    rw [wrap_eq, e1, e2]
  rw [hbt] at v2
  have he : setByte (wrapF s) i v = zhead ++ (bestF s ++ setByte (tailF s) (i - 2 - (bestF s).size) v) := by
    rw [wrap_eq, turned_eq zhead _ i v (by show 2 ≤ i; omega), show zhead.size = 2 from rfl, turned_eq _ _ _ _ (by omega)]
  rw [he, unwrap_of s _ hs]
  have hsz : (setByte (tailF s) (i - 2 - (bestF s).size) v).size = 4 := by rw [setByte_size, h4]
  have ht : tailE (setByte (tailF s) (i - 2 - (bestF s).size) v) s = if b = 0 then 0 else 6 := by
    unfold tailE
    rw [if_neg (by omega), show (setByte (tailF s) (i - 2 - (bestF s).size) v).extract 0 4 = setByte (tailF s) (i - 2 - (bestF s).size) v by rw [← hsz]; exact ByteArray.extract_zero_size]
    by_cases hb : b = 0
    · rw [if_neg (fun h => h ((set_same _ _ _ hi3 v0 v1).2 (v2.2 hb))), if_neg (fun h => h hsz), if_pos hb]
    · rw [if_pos (fun h => hb (v2.1 ((set_same _ _ _ hi3 v0 v1).1 h))), if_neg hb]
  rw [ht]
  by_cases hb : b = 0
  · rw [if_pos hb, if_pos rfl]
  · rw [if_neg hb, if_neg (by decide)]
end Go.Proofs.Ytbgdadehjnifeaa.Hand
