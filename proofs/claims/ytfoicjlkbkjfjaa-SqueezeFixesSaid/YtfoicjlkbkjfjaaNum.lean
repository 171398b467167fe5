/- Plain facts on wrapped numbers, rounds and bytes, for this seat's pure texts. -/
import Derived.Test.YtfoicjlkbkjfjaaHandBase
namespace Go.Proofs.Ytfoicjlkbkjfjaa.Num
open Go.RowKit Go.Proofs.YtfoicjlkbkjfjaaW.PrintWords Go.Proofs.YtfoicjlkbkjfjaaW.PrintLast
theorem w64 {x : Int} (h0 : -9223372036854775808 ≤ x) (h1 : x ≤ 9223372036854775807) : wrap64 x = x := by unfold wrap64; omega
theorem tm {a : Int} (b : Int) (h : 0 ≤ a) : Int.tmod a b = a % b := Int.tmod_eq_emod_of_nonneg h
theorem td {a : Int} (b : Int) (h : 0 ≤ a) : Int.tdiv a b = a / b := Int.tdiv_eq_ediv_of_nonneg h
theorem wf64 {x : Int} (h : (Lit.int .i64 x).wf = true) : -9223372036854775808 ≤ x ∧ x ≤ 9223372036854775807 := by
  simp [Lit.wf, IntKind.min, IntKind.max, IntKind.bits, IntKind.signed] at h
  exact h
theorem bt_cat_left (s t : ByteArray) (i : Int) (h : i.toNat < s.size) : bt (s ++ t) i = bt s i := by
  have h' : i.toNat < (s ++ t).size := by rw [ByteArray.size_append]; omega
  rw [← bt_at s i h, ← bt_at (s ++ t) i h', ByteArray.getElem_append_left h]
theorem bt_cat_right (s t : ByteArray) (i : Nat) (h : i < t.size) : bt (s ++ t) ((s.size + i : Nat) : Int) = bt t i := by
  have h' : s.size + i < (s ++ t).size := by rw [ByteArray.size_append]; omega
  simp only [bt, Int.toNat_natCast]
  rw [dif_pos h', dif_pos h, ByteArray.getElem_append_right (by omega)]
  simp

/-! Bytes as lists of numbers. -/
theorem bytesOf_get? (s : ByteArray) (i : Nat) : (bytesOf s)[i]? = if i < s.size then some (bt s i) else none := by
  split
  · rename_i h
    have h' : i < s.data.toList.length := by rw [data_length]; exact h
    rw [bytesOf, List.getElem?_map, List.getElem?_eq_getElem h', Option.map_some]
    simp only [bt, Int.toNat_natCast, dif_pos h]
    rfl
  · rename_i h
    exact List.getElem?_eq_none (by rw [bytesOf_length]; omega)
theorem size_data (s : ByteArray) : s.size = s.data.toList.length := (data_length s).symm
theorem bytesOf_extract (s : ByteArray) (i j : Nat) : bytesOf (s.extract i j) = ((bytesOf s).take j).drop i := by
  unfold bytesOf
  rw [ByteArray.data_extract, Array.toList_extract, List.extract_eq_take_drop, ← List.map_take, ← List.map_drop, List.drop_take]
theorem bt_extract (s : ByteArray) (i j k : Nat) (h : i + k < j) (hs : i + k < s.size) : bt (s.extract i j) k = bt s ((i + k : Nat) : Int) := by
  have h1 : k < (s.extract i j).size := by rw [ByteArray.size_extract]; omega
  have e1 := bytesOf_get? (s.extract i j) k
  have e2 := bytesOf_get? s (i + k)
  rw [if_pos h1, bytesOf_extract, List.getElem?_drop, List.getElem?_take, if_pos (by omega), e2, if_pos hs] at e1
  injection e1 with e1
  exact e1.symm
theorem bytes_ext {s t : ByteArray} (h : bytesOf s = bytesOf t) : s = t := by
  apply ByteArray.ext
  apply Array.toList_inj.1
  unfold bytesOf at h
  have hi : Function.Injective (fun b : UInt8 => (b.toNat : Int)) := fun a b hab => by
    have h2 : (a.toNat : Int) = (b.toNat : Int) := hab
    have : a.toNat = b.toNat := by omega
    exact UInt8.toNat_inj.1 this
  exact (List.map_inj_right (fun a b h => hi h)).1 h
theorem strOfNums_bytesOf (s : ByteArray) : strOfNums (bytesOf s) = s := by
  apply ByteArray.ext
  apply Array.toList_inj.1
  rw [strOfNums_data, bytesOf, List.map_map]
  apply List.ext_getElem (by simp)
  intro n h1 h2
  simp
theorem bytesOf_strOfNums (l : List Int) (h : ∀ x ∈ l, 0 ≤ x ∧ x < 256) : bytesOf (strOfNums l) = l := by
  unfold bytesOf
  rw [strOfNums_data, List.map_map]
  apply List.ext_getElem (by simp)
  intro n h1 h2
  rw [List.getElem_map]
  have := h l[n] (List.getElem_mem h2)
  simp only [Function.comp]
  rw [UInt8.toNat_ofNat', Nat.mod_eq_of_lt (by omega)]
  omega
theorem bytes_range (s : ByteArray) : ∀ x ∈ bytesOf s, 0 ≤ x ∧ x < 256 := by
  intro x hx
  simp only [bytesOf, List.mem_map] at hx
  obtain ⟨b, _, rfl⟩ := hx
  have := b.toNat_lt
  omega
theorem toList_bytes (s : ByteArray) : s.toList = ([] : List UInt8) ↔ s.size = 0 := by
  rw [ByteArray.toList_eq, ← List.length_eq_zero_iff, data_length]
theorem toList_inj {s t : ByteArray} : s.toList = t.toList ↔ s = t := by
  rw [ByteArray.toList_eq, ByteArray.toList_eq]
  constructor
  · intro h; exact ByteArray.ext (Array.toList_inj.1 h)
  · intro h; rw [h]
/-- Eventually: of two, of a step. -/
theorem ev_eq {α : Type} {g f : Nat → Option α} {r : α} (k : Ev f r) (h : ∃ K, ∀ k, K ≤ k → g k = f k) : Ev g r := by
  obtain ⟨K1, h1⟩ := k
  obtain ⟨K2, h2⟩ := h
  exact ⟨K1 + K2, fun k hk => by rw [h2 k (by omega), h1 k (by omega)]⟩
theorem ev_fun {α : Type} {g : Nat → Option α} {r r' : α} (h : Ev g r) (h' : Ev g r') : r = r' := by
  obtain ⟨K1, h1⟩ := h
  obtain ⟨K2, h2⟩ := h'
  have e1 := h1 (K1 + K2) (by omega)
  have e2 := h2 (K1 + K2) (by omega)
  rw [e1] at e2
  injection e2
end Go.Proofs.Ytfoicjlkbkjfjaa.Num
