/- Encode of layer 7: what it tells, what that tells again, and how long it is. runs.Encode and runs.Decode, each as one plain function. -/
import Derived.Test.YtghoifkaikddlaaGreatHand07
import Derived.Test.YtghoifkaikddlaaGreatHand07d
import Derived.Handy
import Derived.WalkMore
namespace Go.Proofs.YtghoifkaikddlaaGreat.Lem07
open Go.RowKit Go.Proofs.YtghoifkaikddlaaGreat.P07a Go.Proofs.YtghoifkaikddlaaGreatW.PrintWords Go.Proofs.YtghoifkaikddlaaGreatW.PrintLast Go.Proofs.YtghoifkaikddlaaGreatW.PrintMore Go.Proofs.YtghoifkaikddlaaGreat.Hand Go.Proofs.YtghoifkaikddlaaGreat.Num
theorem alike_l0 (t : ByteArray) (hs : t.size ≤ 1000000) (d : Nat) : ∀ (i : Nat), i + d = min t.size 128 → 1 ≤ i → (∀ j, j < i → bt t j = bt t 0) →
  ∃ n : Nat, i ≤ n ∧ n ≤ 128 ∧ n ≤ t.size ∧ (∀ j, j < n → bt t j = bt t 0) ∧ (n < 128 → n < t.size → bt t n ≠ bt t 0) ∧ Ev (fun k => runs_alike.l0 k t i) (n : Int) := by
 have hm : mn (t.size : Int) 128 = ((min t.size 128 : Nat) : Int) := by unfold mn; split <;> omega
 induction d with
 | zero =>
  intro i hi h1 hj
  refine ⟨i, Nat.le_refl _, by omega, by omega, hj, fun h2 h3 => by omega, 1, fun k hk => ?_⟩
  obtain ⟨k, rfl⟩ : ∃ m, k = m + 1 := ⟨k - 1, by omega⟩
  simp only [runs_alike.l0]
  rw [hm, if_neg (by omega)]
 | succ d ih =>
  intro i hi h1 hj
  by_cases he : bt t i = bt t 0
  ·obtain ⟨n, n1, n2, n3, n4, n5, K, hK⟩ := ih (i + 1) (by omega) (by omega) (fun j hj' => by
    rcases Nat.lt_succ_iff_lt_or_eq.1 hj' with h | h
    ·exact hj j h
    ·rw [h]; exact he)
   refine ⟨n, by omega, n2, n3, n4, n5, K + 1, fun k hk => ?_⟩
   obtain ⟨k, rfl⟩ : ∃ m, k = m + 1 := ⟨k - 1, by omega⟩
   have := hK k (by omega)
   simp only [runs_alike.l0]
   rw [hm, if_pos (by omega), if_pos (by omega), if_pos (by omega), if_pos (by omega), if_pos he, w64 (by omega) (by omega)]
   exact this
  ·refine ⟨i, Nat.le_refl _, by omega, by omega, hj, fun _ _ => he, 1, fun k hk => ?_⟩
   obtain ⟨k, rfl⟩ : ∃ m, k = m + 1 := ⟨k - 1, by omega⟩
   simp only [runs_alike.l0]
   rw [hm, if_pos (by omega), if_pos (by omega), if_pos (by omega), if_pos (by omega), if_neg he]
structure Run (s : ByteArray) (a n : Nat) : Prop where
 one : 1 ≤ n
 most : n ≤ 128
 size : a + n ≤ s.size
 same : ∀ j, j < n → bt s ((a + j : Nat) : Int) = bt s a
 stop : n < 128 → a + n < s.size → bt s ((a + n : Nat) : Int) ≠ bt s a
theorem alike_ev (s : ByteArray) (a : Nat) (ha : a < s.size) (hs : s.size ≤ 1000000) : ∃ n, Run s a n ∧ Ev (fun k => runs_alike.f k (s.extract a s.size)) (n : Int) := by
 have hz : (s.extract a s.size).size = s.size - a := by rw [ByteArray.size_extract]; omega
 obtain ⟨n, n1, n2, n3, n4, n5, h⟩ := alike_l0 (s.extract a s.size) (by omega) (min (s.extract a s.size).size 128 - 1) 1 (by omega) (Nat.le_refl _) (fun j hj => by rw [show j = 0 by omega]; rfl)
 have hb : ∀ j, a + j < s.size → bt (s.extract a s.size) j = bt s ((a + j : Nat) : Int) := fun j hj => bt_extract s a s.size j (by omega) (by omega)
 have h0 : bt (s.extract a s.size) 0 = bt s a := by have := hb 0 (by omega); simpa using this
 refine ⟨n, ⟨n1, n2, by omega, fun j hj => ?_, fun h1 h2 => ?_⟩, h⟩
 ·rw [← hb j (by omega), n4 j hj, h0]
 ·rw [← hb n (by omega), ← h0]
  exact n5 h1 (by omega)
def Al (s : ByteArray) (a : Nat) : Prop := a + 2 < s.size ∧ bt s a = bt s ((a + 1 : Nat) : Int) ∧ bt s a = bt s ((a + 2 : Nat) : Int)
theorem Run.al {s : ByteArray} {a n : Nat} (h : Run s a n) : 3 ≤ n ↔ Al s a := by
 constructor
 ·intro h3
  have := h.size
  exact ⟨by omega, (h.same 1 (by omega)).symm, (h.same 2 (by omega)).symm⟩
 ·rintro ⟨h1, h2, h3⟩
  have := h.one
  rcases Nat.lt_or_ge n 3 with hlt | hge
  ·have hst := h.stop (by omega)
   rcases (show n = 1 ∨ n = 2 by omega) with rfl | rfl
   ·exact absurd h2.symm (hst (by omega))
   ·exact absurd h3.symm (hst (by omega))
  ·exact hge
instance (s : ByteArray) (a : Nat) : Decidable (Al s a) := inferInstanceAs (Decidable (_ ∧ _))
def Dec (l out : List Int) : Prop := (∀ x ∈ l, 0 ≤ x ∧ x < 256) ∧ (l.length ≤ 1000000 → ∀ (xs : List Int) (room : Int), xs.length + out.length ≤ 1000000000 → (xs.length : Int) ≤ room →
 Ev (fun k => decL k (strOfNums l) xs room) (if (xs.length : Int) + out.length ≤ room then (strOfNums (xs ++ out), 0) else (⟨#[]⟩, 7)))
theorem bt_str {l : List Int} (h : ∀ x ∈ l, 0 ≤ x ∧ x < 256) (i : Nat) (hi : i < l.length) : bt (strOfNums l) i = l[i] := by
 have e := bytesOf_get? (strOfNums l) i
 rw [bytesOf_strOfNums l h, if_pos (by rw [strOfNums_size]; exact hi), List.getElem?_eq_getElem hi] at e
 injection e with e
 exact e.symm
theorem extract_str {l : List Int} (h : ∀ x ∈ l, 0 ≤ x ∧ x < 256) (i j : Nat) : (strOfNums l).extract i j = strOfNums ((l.take j).drop i) := by
 apply bytes_ext
 rw [bytesOf_extract, bytesOf_strOfNums l h, bytesOf_strOfNums _ (fun x hx => h x (List.mem_of_mem_take (List.mem_of_mem_drop hx)))]
theorem Dec.stop : Dec [128] [] := by
 refine ⟨by simp, fun _ xs room hx hr => ⟨1, fun k hk => ?_⟩⟩
 obtain ⟨k, rfl⟩ : ∃ m, k = m + 1 := ⟨k - 1, by omega⟩
 have e0 : bt (strOfNums [128]) 0 = 128 := by decide +kernel
 have e1 : (strOfNums [128]).size = 1 := by decide +kernel
 simp only [decL]
 rw [e1, e0, if_pos ⟨by omega, by omega⟩, if_neg (by omega), if_pos rfl, if_pos rfl, if_pos (by simpa using hr)]
 simp
theorem Dec.part {c : Int} {ys rest out out1 : List Int} (hc : 0 ≤ c ∧ c < 256) (h128 : c ≠ 128) (hy : ∀ x ∈ ys, 0 ≤ x ∧ x < 256) (h : Dec rest out) (h1 : out1.length ≤ 1000)
  (hp : partF (strOfNums (c :: (ys ++ rest))) = some (out1, ys.length + 1)) : Dec (c :: (ys ++ rest)) (out1 ++ out) := by
 have hb : ∀ x ∈ c :: (ys ++ rest), 0 ≤ x ∧ x < 256 := by
  intro x hx
  rcases List.mem_cons.1 hx with rfl | hx
  ·exact hc
  ·rcases List.mem_append.1 hx with hx | hx
   ·exact hy x hx
   ·exact h.1 x hx
 refine ⟨hb, fun hl xs room hx hr => ?_⟩
 have e0 : bt (strOfNums (c :: (ys ++ rest))) 0 = c := bt_str hb 0 (by simp)
 have e1 : (strOfNums (c :: (ys ++ rest))).size = (c :: (ys ++ rest)).length := strOfNums_size _
 have e2 : (strOfNums (c :: (ys ++ rest))).extract (ys.length + 1) (strOfNums (c :: (ys ++ rest))).size = strOfNums rest := by
  rw [extract_str hb, e1, List.take_length, List.drop_succ_cons, List.drop_left]
 have hlen : (c :: (ys ++ rest)).length = ys.length + rest.length + 1 := by simp
 rw [List.length_append] at hx
 by_cases hbig : room < ((xs ++ out1).length : Int)
 ·refine ⟨1, fun k hk => ?_⟩
  obtain ⟨k, rfl⟩ : ∃ m, k = m + 1 := ⟨k - 1, by omega⟩
  simp only [decL]
  rw [e1, e0, if_pos ⟨by omega, by omega⟩, if_neg (by omega), if_neg h128, hp]
  simp only
  rw [if_pos hbig, if_neg (by rw [List.length_append] at hbig ⊢; omega)]
 ·obtain ⟨K, hK⟩ := h.2 (by omega) (xs ++ out1) room (by rw [List.length_append]; omega) (by omega)
  refine ⟨K + 1, fun k hk => ?_⟩
  obtain ⟨k, rfl⟩ : ∃ m, k = m + 1 := ⟨k - 1, by omega⟩
  have := hK k (by omega)
  simp only [decL]
  rw [e1, e0, if_pos ⟨by omega, by omega⟩, if_neg (by omega), if_neg h128, hp]
  simp only
  rw [if_neg hbig, ← e1, e2]
  dsimp only at this
  rw [this]
  simp only [List.length_append, List.append_assoc, Int.natCast_add, Int.add_assoc]
theorem Dec.lit {c : Nat} {ys rest out : List Int} (hc : c < 128) (hl : ys.length = c + 1) (hy : ∀ x ∈ ys, 0 ≤ x ∧ x < 256) (h : Dec rest out) : Dec ((c : Int) :: (ys ++ rest)) (ys ++ out) := by
 have hb : ∀ x ∈ (c : Int) :: (ys ++ rest), 0 ≤ x ∧ x < 256 := by
  intro x hx
  rcases List.mem_cons.1 hx with rfl | hx
  ·omega
  ·rcases List.mem_append.1 hx with hx | hx
   ·exact hy x hx
   ·exact h.1 x hx
 have e0 : bt (strOfNums ((c : Int) :: (ys ++ rest))) 0 = c := bt_str hb 0 (by simp)
 have hlen : ((c : Int) :: (ys ++ rest)).length = ys.length + rest.length + 1 := by simp
 refine Dec.part (by omega) (by omega) hy h (by omega) ?_
 unfold partF
 rw [strOfNums_size, e0, if_neg (by omega), if_pos (by omega), if_neg (by omega), extract_str hb, bytesOf_strOfNums _ (fun x hx => hb x (List.mem_of_mem_take (List.mem_of_mem_drop hx)))]
 have e1 : ((c : Int) + 2).toNat = ys.length + 1 := by omega
 rw [e1, List.take_succ_cons, List.drop_succ_cons, List.drop_zero, List.take_left]
theorem Dec.run {n : Nat} {x : Int} {rest out : List Int} (hn : 3 ≤ n) (hn2 : n ≤ 128) (hx : 0 ≤ x ∧ x < 256) (h : Dec rest out) : Dec ((257 - (n : Int)) % 256 :: x :: rest) (List.replicate n x ++ out) := by
 have ec : (257 - (n : Int)) % 256 = ((257 - n : Nat) : Int) := by omega
 rw [ec]
 have hb : ∀ y ∈ ((257 - n : Nat) : Int) :: ([x] ++ rest), 0 ≤ y ∧ y < 256 := by
  intro y hy
  rcases List.mem_cons.1 hy with rfl | hy
  ·omega
  ·rcases List.mem_append.1 hy with hy | hy
   ·rw [List.mem_singleton.1 hy]; exact hx
   ·exact h.1 y hy
 have e0 : bt (strOfNums (((257 - n : Nat) : Int) :: ([x] ++ rest))) 0 = ((257 - n : Nat) : Int) := bt_str hb 0 (by simp)
 have e1 : bt (strOfNums (((257 - n : Nat) : Int) :: ([x] ++ rest))) 1 = x := bt_str hb 1 (by simp)
 have hlen : (((257 - n : Nat) : Int) :: ([x] ++ rest)).length = rest.length + 2 := by simp
 have := Dec.part (ys := [x]) (c := ((257 - n : Nat) : Int)) (out1 := List.replicate n x) (by omega) (by omega) (by simpa using hx) h (by rw [List.length_replicate]; omega) (by
  unfold partF
  rw [strOfNums_size, e0, e1, if_neg (by omega), if_neg (by omega)]
  have : (257 - ((257 - n : Nat) : Int)).toNat = n := by omega
  rw [this]
  rfl)
 exact this
theorem drop_split (s : ByteArray) (f a : Nat) (h : f ≤ a) : (bytesOf s).drop f = bytesOf (s.extract f a) ++ (bytesOf s).drop a := by
 have e := List.take_append_drop (a - f) ((bytesOf s).drop f)
 rw [List.drop_drop, show f + (a - f) = a by omega] at e
 rw [bytesOf_extract, List.drop_take]
 exact e.symm
theorem drop_end (s : ByteArray) : (bytesOf s).drop s.size = [] := List.drop_of_length_le (Nat.le_of_eq (bytesOf_length s))
theorem flushed_lt (xs : List Int) (s : ByteArray) (f a : Nat) (h : f < a) (h2 : a - f ≤ 128) : flushed xs s f a = xs ++ (((a - f - 1 : Nat) : Int) :: bytesOf (s.extract f a)) := by
 unfold flushed
 rw [if_pos h, List.append_assoc]
 have : ((a : Int) - f - 1) % 256 = ((a - f - 1 : Nat) : Int) := by omega
 rw [this]
 rfl
theorem flushed_eq (xs : List Int) (s : ByteArray) (a : Nat) : flushed xs s a a = xs := by
 unfold flushed
 rw [if_neg (by omega)]
theorem run_bytes {s : ByteArray} {a n : Nat} (h : Run s a n) : bytesOf (s.extract a (a + n)) = List.replicate n (bt s a) := by
 have hsz := h.size
 apply List.ext_getElem?
 intro j
 rw [bytesOf_get?]
 have e : (s.extract a (a + n)).size = n := by rw [ByteArray.size_extract]; omega
 rw [e]
 by_cases hj : j < n
 ·rw [if_pos hj, bt_extract s a (a + n) j (by omega) (by omega), h.same j hj, List.getElem?_replicate, if_pos hj]
 ·rw [if_neg hj, List.getElem?_eq_none (by rw [List.length_replicate]; omega)]
theorem ext_length (s : ByteArray) (f a : Nat) (ha : a ≤ s.size) : (bytesOf (s.extract f a)).length = a - f := by rw [bytesOf_length, ByteArray.size_extract]; omega
structure Enc (s : ByteArray) (a f : Nat) (xs E : List Int) : Prop where
 go : Ev (fun k => encL k s a f xs) (xs ++ E)
 dec : Dec E ((bytesOf s).drop f)
 len : E.length ≤ (s.size - f) + (s.size - f + 127) / 128 + 1
theorem enc_all (s : ByteArray) (hs : s.size ≤ 100000) (d : Nat) : ∀ (a f : Nat) (xs : List Int), a + d = s.size → f ≤ a → a - f < 128 → xs.length + 3 * (s.size - f) ≤ 1000000 → ∃ E, Enc s a f xs E := by
 induction d using Nat.strongRecOn with
 | ind d ih =>
  intro a f xs had hfa h128 hx
  have hb := bytes_range s
  have guard : ∀ k, encL (k + 1) s a f xs = (if a < s.size then
    ((runs_alike.f k (s.extract a s.size)).bind fun n =>
     if 3 ≤ n then (if n ≤ (s.size : Int) - a then encL k s (a + n.toNat) (a + n.toNat) (flushed xs s f a ++ [(257 - n) % 256, bt s a]) else none)
     else if a + 1 - f = 128 then encL k s (a + 1) (a + 1) (flushed xs s f (a + 1)) else encL k s (a + 1) f xs)
   else some (flushed xs s f a ++ [128])) := fun k => by
   rw [encL, if_pos ⟨hfa, by omega, by omega, by omega⟩]
  by_cases ha : a = s.size
  ·subst ha
   by_cases hf : f = s.size
   ·subst hf
    refine ⟨[128], ⟨1, fun k hk => ?_⟩, by rw [drop_end]; exact Dec.stop, by simp⟩
    obtain ⟨k, rfl⟩ : ∃ m, k = m + 1 := ⟨k - 1, by omega⟩
    dsimp only
    rw [guard k, if_neg (by omega), flushed_eq]
   ·have hlt : f < s.size := by omega
    have eB := ext_length s f s.size (Nat.le_refl _)
    have eF := flushed_lt xs s f s.size hlt (by omega)
    have eA : xs ++ ((s.size - f - 1 : Nat) : Int) :: (bytesOf (s.extract f s.size) ++ [128]) = flushed xs s f s.size ++ [128] := by rw [eF, List.append_assoc]; rfl
    refine ⟨((s.size - f - 1 : Nat) : Int) :: (bytesOf (s.extract f s.size) ++ [128]), ⟨1, fun k hk => ?_⟩, ?_, ?_⟩
    ·obtain ⟨k, rfl⟩ : ∃ m, k = m + 1 := ⟨k - 1, by omega⟩
     dsimp only
     rw [guard k, if_neg (by omega), eA]
    ·rw [drop_split s f s.size hfa, drop_end]
     exact Dec.lit (by omega) (by omega) (bytes_range _) Dec.stop
    ·rw [List.length_cons, List.length_append, eB, List.length_singleton]; omega
  ·have hlt : a < s.size := by omega
   obtain ⟨n, hr, K1, hK1⟩ := alike_ev s a hlt (by omega)
   have r1 := hr.one
   have r2 := hr.most
   have r3 := hr.size
   have hbx : 0 ≤ bt s a ∧ bt s a < 256 := by have := bt_range s a; omega
   dsimp only at hK1
   by_cases h3 : 3 ≤ n
   ·have hal := hr.al.1 h3
    have eR := run_bytes hr
    have eD : (bytesOf s).drop a = List.replicate n (bt s a) ++ (bytesOf s).drop (a + n) := by rw [drop_split s a (a + n) (by omega), eR]
    have eFl : (flushed xs s f a).length ≤ xs.length + (a - f) + 1 := by
     by_cases hf : f < a
     ·rw [flushed_lt xs s f a hf (by omega), List.length_append, List.length_cons, ext_length s f a (by omega)]; omega
     ·rw [show a = f by omega, flushed_eq]; omega
    obtain ⟨E', h⟩ := ih (d - n) (by omega) (a + n) (a + n) (flushed xs s f a ++ [(257 - (n : Int)) % 256, bt s a]) (by omega) (by omega) (by omega) (by
     rw [List.length_append]; simp only [List.length_cons, List.length_nil]; omega)
    have step : Ev (fun k => encL k s a f xs) ((flushed xs s f a ++ [(257 - (n : Int)) % 256, bt s a]) ++ E') := by
     obtain ⟨K2, hK2⟩ := h.go
     refine ⟨K1 + K2 + 1, fun k hk => ?_⟩
     obtain ⟨k, rfl⟩ : ∃ m, k = m + 1 := ⟨k - 1, by omega⟩
     dsimp only at hK2 ⊢
     rw [guard k, if_pos hlt, hK1 k (by omega)]
     simp only [Option.bind_some]
     rw [if_pos (by omega), if_pos (by omega), Int.toNat_natCast]
     exact hK2 k (by omega)
    have dec := Dec.run h3 r2 hbx h.dec
    rw [← eD] at dec
    by_cases hf : f = a
    ·subst hf
     rw [flushed_eq] at step
     have eA : xs ++ ((257 - (n : Int)) % 256 :: bt s f :: E') = xs ++ [(257 - (n : Int)) % 256, bt s f] ++ E' := by rw [List.append_assoc]; rfl
     refine ⟨(257 - (n : Int)) % 256 :: bt s f :: E', by rw [eA]; exact step, dec, ?_⟩
     have := h.len
     simp only [List.length_cons]
     omega
    ·have hfl : f < a := by omega
     have eB := ext_length s f a (by omega)
     have eF := flushed_lt xs s f a hfl (by omega)
     have eA : xs ++ (((a - f - 1 : Nat) : Int) :: (bytesOf (s.extract f a) ++ ((257 - (n : Int)) % 256 :: bt s a :: E'))) = flushed xs s f a ++ [(257 - (n : Int)) % 256, bt s a] ++ E' := by
      rw [eF]; simp only [List.append_assoc, List.cons_append, List.nil_append]
     refine ⟨((a - f - 1 : Nat) : Int) :: (bytesOf (s.extract f a) ++ ((257 - (n : Int)) % 256 :: bt s a :: E')), by rw [eA]; exact step, ?_, ?_⟩
     ·rw [drop_split s f a hfa]
      exact Dec.lit (by omega) (by omega) (bytes_range _) dec
     ·have := h.len
      rw [List.length_cons, List.length_append, eB]
      simp only [List.length_cons]
      omega
   ·have hal : ¬ Al s a := fun h => h3 (hr.al.2 h)
    by_cases h5 : a + 1 - f = 128
    ·have hfl : f < a + 1 := by omega
     have eB := ext_length s f (a + 1) (by omega)
     have eF := flushed_lt xs s f (a + 1) hfl (by omega)
     obtain ⟨E', h⟩ := ih (d - 1) (by omega) (a + 1) (a + 1) (flushed xs s f (a + 1)) (by omega) (by omega) (by omega) (by
      rw [eF, List.length_append, List.length_cons, eB]; omega)
     have eA : xs ++ (((a + 1 - f - 1 : Nat) : Int) :: (bytesOf (s.extract f (a + 1)) ++ E')) = flushed xs s f (a + 1) ++ E' := by
      rw [eF]; simp only [List.append_assoc, List.cons_append]
     refine ⟨((a + 1 - f - 1 : Nat) : Int) :: (bytesOf (s.extract f (a + 1)) ++ E'), ?_, ?_, ?_⟩
     ·obtain ⟨K2, hK2⟩ := h.go
      refine ⟨K1 + K2 + 1, fun k hk => ?_⟩
      obtain ⟨k, rfl⟩ : ∃ m, k = m + 1 := ⟨k - 1, by omega⟩
      dsimp only at hK2 ⊢
      rw [guard k, if_pos hlt, hK1 k (by omega), eA]
      simp only [Option.bind_some]
      rw [if_neg (by omega), if_pos h5]
      exact hK2 k (by omega)
     ·rw [drop_split s f (a + 1) (by omega)]
      exact Dec.lit (by omega) (by omega) (bytes_range _) h.dec
     ·have := h.len
      rw [List.length_cons, List.length_append, eB]
      omega
    ·obtain ⟨E', h⟩ := ih (d - 1) (by omega) (a + 1) f xs (by omega) (by omega) (by omega) hx
     refine ⟨E', ?_, h.dec, h.len⟩
     ·obtain ⟨K2, hK2⟩ := h.go
      refine ⟨K1 + K2 + 1, fun k hk => ?_⟩
      obtain ⟨k, rfl⟩ : ∃ m, k = m + 1 := ⟨k - 1, by omega⟩
      dsimp only at hK2 ⊢
      rw [guard k, if_pos hlt, hK1 k (by omega)]
      simp only [Option.bind_some]
      rw [if_neg (by omega), if_neg h5]
      exact hK2 k (by omega)
theorem enc_tot (s : ByteArray) (hs : s.size ≤ 60000) : ∃ E, Enc s 0 0 [] E := enc_all s (by omega) s.size 0 0 [] (by omega) (by omega) (by omega) (by simp; omega)
end Go.Proofs.YtghoifkaikddlaaGreat.Lem07
namespace Go.Proofs.YtghoifkaikddlaaGreat.Hand
open Go.RowKit Go.Proofs.YtghoifkaikddlaaGreatW.PrintWords Go.Proofs.YtghoifkaikddlaaGreatW.PrintLast Go.Proofs.YtghoifkaikddlaaGreatW.PrintMore Go.Proofs.YtghoifkaikddlaaGreat.Num Go.Proofs.YtghoifkaikddlaaGreat.P07a Go.Proofs.YtghoifkaikddlaaGreat.Lem07
set_option linter.unusedVariables false
set_option linter.unusedSimpArgs false
open Classical in
noncomputable def runsF (s : ByteArray) : ByteArray := if h : ∃ E, Enc s 0 0 [] E then strOfNums (Classical.choose h) else ⟨#[]⟩
theorem runsF_spec (s : ByteArray) (hs : s.size ≤ 60000) : ∃ E, Enc s 0 0 [] E ∧ runsF s = strOfNums E := by
 have h := enc_tot s hs
 exact ⟨Classical.choose h, Classical.choose_spec h, by unfold runsF; rw [dif_pos h]⟩
theorem runsF_ev (s : ByteArray) (hs : s.size ≤ 60000) : Ev (fun k => runs_Encode.f k s) (runsF s) := by
 obtain ⟨E, h, e⟩ := runsF_spec s hs
 obtain ⟨K, hK⟩ := h.go
 refine ⟨K, fun k hk => ?_⟩
 have := hK k hk
 dsimp only at this ⊢
 unfold runs_Encode.f
 rw [this, e]
 rfl
theorem runsF_eq {s r : ByteArray} (hs : s.size ≤ 60000) (h : Ev (fun k => runs_Encode.f k s) r) : runsF s = r := by
 obtain ⟨K1, h1⟩ := runsF_ev s hs
 obtain ⟨K2, h2⟩ := h
 have a := h1 (K1 + K2) (by omega)
 have b := h2 (K1 + K2) (by omega)
 dsimp only at a b
 rw [a] at b
 exact Option.some.inj b
theorem runsF_size (s : ByteArray) (hs : s.size ≤ 60000) : (runsF s).size ≤ 2 * s.size + 20 := by
 obtain ⟨E, h, e⟩ := runsF_spec s hs
 have hl := h.len
 rw [e, size_data, strOfNums_data, List.length_map]
 omega
theorem runsF_calls (s : ByteArray) (w : World) (hs : s.size ≤ 60000) : Calls Tryz.prog 51 #[.string s] w fun e w' => e = .returned (.string (runsF s)) ∧ Below w.heap.size w w' := by
 obtain ⟨k, h⟩ := (runsF_ev s hs).rounds
 exact runs_Encode.calls k s _ w h
theorem decL_tot (room : Int) (n : Nat) : ∀ (s : ByteArray) (xs : List Int), s.size ≤ n → s.size ≤ 1000000 → xs.length + 1000 * s.size ≤ 1000000000000 → (xs.length : Int) ≤ room → ∃ r, Ev (fun k => decL k s xs room) r ∧ (r.1.size : Int) ≤ room := by
 have stop : ∀ (s : ByteArray) (xs : List Int) (r : ByteArray × Int), (∀ k, decL (k + 1) s xs room = some r) → (r.1.size : Int) ≤ room → ∃ r, Ev (fun k => decL k s xs room) r ∧ (r.1.size : Int) ≤ room := fun s xs r h hr => ⟨r, ⟨1, fun k hk => by
  obtain ⟨k, rfl⟩ : ∃ m, k = m + 1 := ⟨k - 1, by omega⟩
  exact h k⟩, hr⟩
 have sz : ∀ xs : List Int, (strOfNums xs).size = xs.length := fun xs => by rw [size_data, strOfNums_data, List.length_map]
 induction n with
 | zero =>
  intro s xs hn hs hx hr
  refine stop s xs (⟨#[]⟩, 5) (fun k => ?_) (by show ((0 : Nat) : Int) ≤ room; omega)
  simp only [decL]
  rw [if_pos ⟨hs, by omega⟩, if_pos (by omega)]
 | succ n ih =>
  intro s xs hn hs hx hr
  by_cases h0 : s.size = 0
  ·refine stop s xs (⟨#[]⟩, 5) (fun k => ?_) (by show ((0 : Nat) : Int) ≤ room; omega)
   simp only [decL]
   rw [if_pos ⟨hs, by omega⟩, if_pos h0]
  ·by_cases h1 : bt s 0 = 128
   ·by_cases h2 : s.size = 1
    ·refine stop s xs (strOfNums xs, 0) (fun k => ?_) (by rw [sz]; exact hr)
     simp only [decL]
     rw [if_pos ⟨hs, by omega⟩, if_neg h0, if_pos h1, if_pos h2]
    ·refine stop s xs (⟨#[]⟩, 4) (fun k => ?_) (by show ((0 : Nat) : Int) ≤ room; omega)
     simp only [decL]
     rw [if_pos ⟨hs, by omega⟩, if_neg h0, if_pos h1, if_neg h2]
   ·cases hp : partF s with
    | none =>
     refine stop s xs (⟨#[]⟩, 5) (fun k => ?_) (by show ((0 : Nat) : Int) ≤ room; omega)
     simp only [decL]
     rw [if_pos ⟨hs, by omega⟩, if_neg h0, if_neg h1, hp]
    | some p =>
     obtain ⟨ys, q⟩ := p
     obtain ⟨l1, l2, l3, l4⟩ := partF_le hp
     by_cases h2 : room < ((xs ++ ys).length : Int)
     ·refine stop s xs (⟨#[]⟩, 7) (fun k => ?_) (by show ((0 : Nat) : Int) ≤ room; omega)
      simp only [decL]
      rw [if_pos ⟨hs, by omega⟩, if_neg h0, if_neg h1, hp]
      simp only
      rw [if_pos h2]
     ·have e : (s.extract q s.size).size = s.size - q := by rw [ByteArray.size_extract]; omega
      obtain ⟨r, ⟨K, hr⟩, hz⟩ := ih (s.extract q s.size) (xs ++ ys) (by omega) (by omega) (by rw [List.length_append, e]; omega) (by omega)
      refine ⟨r, ⟨K + 1, fun k hk => ?_⟩, hz⟩
      obtain ⟨k, rfl⟩ : ∃ m, k = m + 1 := ⟨k - 1, by omega⟩
      simp only [decL]
      rw [if_pos ⟨hs, by omega⟩, if_neg h0, if_neg h1, hp]
      simp only
      rw [if_neg h2]
      exact hr k (by omega)
open Classical in
noncomputable def runsD (s : ByteArray) (m : Int) : ByteArray × Int := if h : ∃ r, Ev (fun k => runs_Decode.f k s m) r ∧ (r.1.size : Int) ≤ m then Classical.choose h else (⟨#[]⟩, 0)
theorem runsD_spec (s : ByteArray) (m : Int) (hs : s.size ≤ 1000000) (hm : 0 ≤ m) : Ev (fun k => runs_Decode.f k s m) (runsD s m) ∧ ((runsD s m).1.size : Int) ≤ m := by
 have h : ∃ r, Ev (fun k => runs_Decode.f k s m) r ∧ (r.1.size : Int) ≤ m := by
  obtain ⟨r, h1, h2⟩ := decL_tot m s.size s [] (Nat.le_refl _) hs (by simp; omega) (by simpa using hm)
  refine ⟨r, ?_, h2⟩
  obtain ⟨K, hK⟩ := h1
  refine ⟨K, fun k hk => ?_⟩
  have := hK k hk
  dsimp only at this ⊢
  unfold runs_Decode.f
  rw [if_neg (by omega)]
  exact this
 unfold runsD
 rw [dif_pos h]
 exact Classical.choose_spec h
theorem ev_one_val {α : Type} {g : Nat → Option α} {a b : α} (h1 : Ev g a) (h2 : Ev g b) : a = b := by
 obtain ⟨K1, h1⟩ := h1
 obtain ⟨K2, h2⟩ := h2
 have x := h1 (K1 + K2) (by omega)
 have y := h2 (K1 + K2) (by omega)
 rw [x] at y
 exact Option.some.inj y
theorem runsD_eq {s : ByteArray} {m : Int} {r : ByteArray × Int} (hs : s.size ≤ 1000000) (hm : 0 ≤ m) (h : Ev (fun k => runs_Decode.f k s m) r) : runsD s m = r := ev_one_val (runsD_spec s m hs hm).1 h
theorem runsD_calls (s : ByteArray) (m : Int) (w : World) (hs : s.size ≤ 1000000) (hm : 0 ≤ m) : Calls Tryz.prog 73 #[.string s, .int .i64 m] w fun e w' => e = .returned (.tuple #[.string (runsD s m).1, .int .i64 (runsD s m).2]) ∧ Below w.heap.size w w' := by
 obtain ⟨k, h⟩ := (runsD_spec s m hs hm).1.rounds
 exact runs_Decode.calls k s m _ _ w h
set_option maxHeartbeats 1000000 in
theorem rruns_calls (s : ByteArray) (m : Int) (w : World) (hs : s.size ≤ 1000000) (hm : 0 ≤ m) : Calls Tryz.prog 52 #[.int .i64 m, .string s] w fun e w' => e = .returned (.tuple #[.string (runsD s m).1, .int .i64 (runsD s m).2]) ∧ Below w.heap.size w w' := by
 have KR := Aside0.mk (fun W => runsD_calls s m W hs hm)
 clear hs hm
 go_enter Tryz.func52, Tryz.ntmps52
 go_wp2_with (first | (go_at_call 73; (with_reducible refine (KR.out _).mono ?_); rintro e w1 ⟨rfl, hb1⟩))
 go_returns
 exact ⟨rfl, hb1⟩
theorem runs_back (s : ByteArray) (m : Int) (hs : s.size ≤ 60000) (hm : (s.size : Int) ≤ m) : runsD (runsF s) m = (s, 0) := by
 obtain ⟨E, h, e⟩ := runsF_spec s hs
 have hl := h.len
 have hd := h.dec.2 (by omega)
 have hlen := bytesOf_length s
 rw [List.drop_zero] at hd
 obtain ⟨K3, h3⟩ := hd [] m (by simp; omega) (by simp; omega)
 dsimp only at h3
 rw [if_pos (by simp; omega)] at h3
 rw [List.nil_append, strOfNums_bytesOf] at h3
 refine runsD_eq (by rw [e, size_data, strOfNums_data, List.length_map]; omega) (by omega) ⟨K3, fun k hk => ?_⟩
 show runs_Decode.f k (runsF s) m = _
 unfold runs_Decode.f
 rw [if_neg (by omega), e]
 exact h3 k hk
end Go.Proofs.YtghoifkaikddlaaGreat.Hand
