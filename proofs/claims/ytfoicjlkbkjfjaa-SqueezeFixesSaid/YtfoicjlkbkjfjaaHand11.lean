/- A map from numbers to numbers from 0 on, of the call's own: what it answers. Squeeze in plain numbers: the longest piece that stood ahead, the fixed codes' bits, the text of bits. Squeeze: the spans' tables and codes, a piece's key, how far two pieces are alike; walked by hand. -/
import Derived.Test.YtfoicjlkbkjfjaaHandBase
import Derived.Maps.OwnOps
import Derived.Maps.Views
import Derived.Handy
import Derived.Test.YtfoicjlkbkjfjaaCodesR
import Derived.Test.YtfoicjlkbkjfjaaInf
import Derived.Great.BuildSlice
namespace Go.Proofs.Ytfoicjlkbkjfjaa.Hand
open Go.RowKit Go.Proofs.YtfoicjlkbkjfjaaW.PrintWords Go.Proofs.YtfoicjlkbkjfjaaW.PrintLast Go.Proofs.YtfoicjlkbkjfjaaW.PrintMore
open Go.Maps (Keyed)
set_option linter.unusedVariables false
set_option linter.unusedSimpArgs false
/-- Block mb is a map of at most n numbers: where F is below 0 there is nothing. -/
structure MapAt (w : World) (B mb n : Nat) (F : Int → Int) : Prop where
  low : B ≤ mb
  open_ : ∃ D : DataW Unit, w.ownsMap Try.prog 3 (plainElem Try.prog 3) mb n D ∧ ∀ k, (Lit.int .i64 k).wf = true → ∀ z, D.atKey (.int .i64 k) z = if F k < 0 then z else .lit (.int .i64 (F k))
theorem MapAt.lt {w : World} {B mb n : Nat} {F : Int → Int} (h : MapAt w B mb n F) : mb < w.heap.size := by obtain ⟨D, h1, _⟩ := h.open_; exact h1.lt
theorem MapAt.blk {w : World} {B mb n : Nat} {F : Int → Int} (h : MapAt w B mb n F) : ∃ es c, w.heap[mb]? = some (.map es c) := by
  obtain ⟨D, ⟨es, c, hb, _⟩, _⟩ := h.open_; exact ⟨es, c, hb⟩
theorem MapAt.ne {w : World} {B mb n : Nat} {F : Int → Int} (h : MapAt w B mb n F) {g : Nat} {cs : Array Value} {t : TypeId} {fr : Nat × Nat} (hb : w.heap[g]? = some (.cells cs t fr)) : mb ≠ g := by
  obtain ⟨es, c, hm⟩ := h.blk
  rintro rfl
  rw [hm] at hb; cases hb
theorem MapAt.same {w w' : World} {B mb n : Nat} {F : Int → Int} (h : MapAt w B mb n F) (hb : w'.heap[mb]? = w.heap[mb]?) : MapAt w' B mb n F := by
  obtain ⟨D, ⟨es, c, h1, h2⟩, h3⟩ := h.open_
  exact ⟨h.low, D, ⟨es, c, hb.trans h1, h2⟩, h3⟩
theorem MapAt.fr {w w' : World} {B mb n : Nat} {F : Int → Int} {S : Nat → Prop} (h : MapAt w B mb n F) (hf : Fr w w' S) (hn : ¬ S mb) : MapAt w' B mb n F := h.same (hf.block mb h.lt hn)
theorem MapAt.mono {w : World} {B mb n n' : Nat} {F : Int → Int} (h : MapAt w B mb n F) (hn : n ≤ n') : MapAt w B mb n' F := by
  obtain ⟨D, h1, h2⟩ := h.open_; exact ⟨h.low, D, h1.mono hn, h2⟩
theorem MapAt.drawn {w w' : World} {B mb n : Nat} {F : Int → Int} (h : MapAt w B mb n F) (hd : Drawn0 w w') : MapAt w' B mb n F := by
  obtain ⟨⟨k, rfl⟩⟩ := hd; exact ⟨h.low, h.open_⟩
theorem MapAt.made (w : World) (B : Nat) (hB : B ≤ w.heap.size) : MapAt (w.alloc (.map #[] 0)) B w.heap.size 0 (fun _ => -1) :=
  ⟨hB, .map [], World.ownsMap_made w _ _ _, fun k _ z => by rw [if_pos (by decide)]; rfl⟩
theorem ownsMap_isMap {w : World} {mb n : Nat} {D : DataW Unit} {P : Program} {k : TypeId} {R : Value → Option (DataW Unit × List MemPlace)} (h : w.ownsMap P k R mb n D) : Go.Maps.IsMap D := by
  obtain ⟨es, c, _, _, _, rfl⟩ := h
  exact ⟨_, rfl⟩
theorem zeroI (w : World) : (zeroValue 3).run Try.prog w = .ok (.int .i64 0) w := by kernel_rfl
set_option maxRecDepth 100000 in
/-- 'j, ok := m[k]'. -/
theorem MapAt.look {w : World} {B mb n : Nat} {F : Int → Int} (h : MapAt w B mb n F) (k : Int) (hk : (Lit.int .i64 k).wf = true) :
    (Instr.lookup 48 (.map (some mb)) (.int .i64 k) true).run Try.prog w = .ok (.tuple #[.int .i64 (if F k < 0 then 0 else F k), .bool (decide (0 ≤ F k))]) w := by
  obtain ⟨D, ⟨es, c, hb, hF, _, rfl⟩, hD⟩ := h.open_
  have hz := zeroI w
  rcases Go.Maps.fit_look true (Go.Maps.int_keyed Try.underlying3) Try.underlying48 hz hb hF (Go.Maps.keyOf_int_mk Try.underlying3 hk) with ⟨hr, _, hat⟩ | ⟨e0, y, _, _, hr, hR, hat, _⟩
  · have hneg : F k < 0 := by
      rcases Int.lt_or_le (F k) 0 with hlt | hge
      · exact hlt
      · have h1 := hD k hk (.lit (.bool true))
        rw [hat, if_neg (by omega)] at h1
        cases h1
    rw [hr, if_pos hneg, decide_eq_false (show ¬ 0 ≤ F k by omega)]
    simp
  · obtain ⟨a, ha, rfl, _⟩ := plainElem_int_inv Try.underlying3 hR
    have hge : ¬ F k < 0 := by
      intro hlt
      have h1 := hD k hk (.lit (.bool true))
      rw [hat, if_pos hlt] at h1
      cases h1
    have h1 := hD k hk (.lit (.bool true))
    rw [hat, if_neg hge] at h1
    injection h1 with h1
    injection h1 with _ h1
    rw [hr, ha, if_neg hge, decide_eq_true (show 0 ≤ F k by omega), h1]
    simp
/-- 'm[k] = v'. -/
theorem MapAt.put {w : World} {B mb n : Nat} {F : Int → Int} (h : MapAt w B mb n F) (hn : n < maxLen) (k v : Int) (hk : (Lit.int .i64 k).wf = true) (hv : (Lit.int .i64 v).wf = true) (hv0 : 0 ≤ v) :
    ∃ w', (Instr.mapUpdate 48 (.map (some mb)) (.int .i64 k) (.int .i64 v)).run Try.prog w = .ok () w' ∧ MapAt w' B mb (n + 1) (fun x => if x = k then v else F x) ∧ w.grownBy w' (some mb) := by
  obtain ⟨D, h1, hD⟩ := h.open_
  obtain ⟨w', hr, h2, h3⟩ := h1.update (Go.Maps.int_keyed Try.underlying3) Try.underlying48 hn (Go.Maps.keyOf_int_mk Try.underlying3 hk) (plainElem_int Try.underlying3 hv)
  refine ⟨w', hr, ⟨h.low, _, h2, fun x hx z => ?_⟩, h3⟩
  by_cases hxk : x = k
  · subst hxk
    rw [Go.Maps.atKey_put_same (ownsMap_isMap h1) (show WideAt.IsKeyLit (.int .i64 x) from trivial)]
    simp only [if_true]
    rw [if_neg (by omega)]
  · rw [Go.Maps.atKey_put_other (by intro he; injection he with _ he; exact hxk he), hD x hx]
    simp only [if_neg hxk]
end Go.Proofs.Ytfoicjlkbkjfjaa.Hand
namespace Go.Proofs.Ytfoicjlkbkjfjaa.Hand
open Go.RowKit Go.Proofs.YtfoicjlkbkjfjaaW.PrintWords Go.Proofs.YtfoicjlkbkjfjaaW.PrintLast Go.Proofs.YtfoicjlkbkjfjaaW.PrintMore Go.Proofs.Ytfoicjlkbkjfjaa.Num Go.Proofs.Ytfoicjlkbkjfjaa.Bits
set_option linter.unusedVariables false
set_option linter.unusedSimpArgs false
/-! The text of bits, reckoned. -/
def numB : List Int → Int
  | [] => 0
  | b :: t => b + 2 * numB t
def unflat : Nat → List Int → List Int
  | 0, _ => []
  | k + 1, L => numB (L.take 8) :: unflat k (L.drop 8)
def textL (L : List Int) : ByteArray := strOfNums (unflat ((L.length + 7) / 8) (L ++ List.replicate ((8 - L.length % 8) % 8) 0))
theorem numB_bits : ∀ (w : Nat) (y : Int), numB (bitsN y w) = y % 2 ^ w
  | 0, y => by rw [bitsN, numB, Int.pow_zero, Int.emod_one]
  | w + 1, y => by
    rw [bitsN, numB, numB_bits w, Int.pow_succ, Int.mul_comm (2 ^ w) 2]
    have h := Int.emod_add_mul_ediv y 2
    have h1 := Int.emod_add_mul_ediv (y / 2) (2 ^ w)
    have h2 := Int.emod_add_mul_ediv y (2 * 2 ^ w)
    have h3 : y / (2 * 2 ^ w) = y / 2 / 2 ^ w := by rw [Int.ediv_ediv_of_nonneg (by decide)]
    rw [h3, Int.mul_assoc] at h2
    omega
theorem unflat_flat : ∀ ys : List Int, (∀ y ∈ ys, 0 ≤ y ∧ y < 256) → unflat ys.length (flat ys) = ys
  | [], _ => rfl
  | y :: ys, h => by
    have h0 := h y (List.mem_cons_self ..)
    rw [List.length_cons, unflat, flat_cons, List.take_append_of_le_length (by rw [bitsN_length]; omega), List.drop_append_of_le_length (by rw [bitsN_length]; omega), List.take_of_length_le (by rw [bitsN_length]; omega), List.drop_of_length_le (by rw [bitsN_length]; omega), List.nil_append, unflat_flat ys (fun z hz => h z (List.mem_cons_of_mem _ hz)), numB_bits]
    congr 1
    exact Int.emod_eq_of_lt h0.1 h0.2
theorem TextOf.textL {L : List Int} {t : ByteArray} (h : TextOf L t) : t = textL L := by
  unfold Hand.textL
  rw [← h.eq, ← h.size, ← bytesOf_length, unflat_flat _ (bytes_range t)]
  exact (strOfNums_bytesOf t).symm
/-! The spans' codes. -/
def codeG : List (Int × Nat) → Int → Nat
  | [], _ => 0
  | x :: t, n => if x.1 ≤ n then codeG t n + 1 else 0
def codeF (T : List (Int × Nat)) (n : Int) : Nat := codeG (T.drop 1) n
theorem codeG_le : ∀ (T : List (Int × Nat)) (n : Int), codeG T n ≤ T.length
  | [], _ => Nat.le_refl _
  | x :: t, n => by rw [codeG]; split; have := codeG_le t n; simp; exact this; exact Nat.zero_le _
theorem codeF_lt (T : List (Int × Nat)) (n : Int) (h : 0 < T.length) : codeF T n < T.length := by
  have := codeG_le (T.drop 1) n
  rw [List.length_drop] at this
  unfold codeF; omega
theorem codeG_step (T : List (Int × Nat)) (n : Int) (k : Nat) (h : k + 1 < T.length) : codeG (T.drop (k + 1)) n = if (T.getD (k + 1) (0, 0)).1 ≤ n then codeG (T.drop (k + 2)) n + 1 else 0 := by
  rw [List.drop_eq_getElem_cons h, codeG, List.getD_eq_getElem?_getD, List.getElem?_eq_getElem h, Option.getD_some]
theorem codeG_spec : ∀ (T : List (Int × Nat)) (x : Int × Nat) (n : Int), x.1 ≤ n → ((x :: T).getD (codeG T n) (0, 0)).1 ≤ n ∧ (codeG T n < T.length → n < ((x :: T).getD (codeG T n + 1) (0, 0)).1)
  | [], x, n, h => ⟨h, fun h => absurd h (Nat.lt_irrefl _)⟩
  | y :: t, x, n, h => by
    rw [codeG]
    by_cases hy : y.1 ≤ n
    · rw [if_pos hy]
      have := codeG_spec t y n hy
      exact ⟨this.1, fun hh => this.2 (by simpa using hh)⟩
    · rw [if_neg hy]
      exact ⟨h, fun _ => by show n < y.1; omega⟩
theorem lens_ok {n : Int} (h : 3 ≤ n) (h2 : n ≤ 258) : codeF lensT n < 29 ∧ 0 ≤ n - (lensT.getD (codeF lensT n) (0, 0)).1 ∧ n - (lensT.getD (codeF lensT n) (0, 0)).1 < 2 ^ (lensT.getD (codeF lensT n) (0, 0)).2 ∧ (lensT.getD (codeF lensT n) (0, 0)).2 ≤ 5 := by
  have hs := codeG_spec (lensT.drop 1) (3, 0) n h
  have hl : codeF lensT n < 29 := codeF_lt lensT n (by decide)
  have e : (((3, 0) :: lensT.drop 1 : List (Int × Nat))) = lensT := rfl
  rw [e] at hs
  have ht : ∀ k, k < 28 → (lensT.getD (k + 1) (0, 0)).1 ≤ (lensT.getD k (0, 0)).1 + 2 ^ (lensT.getD k (0, 0)).2 := by decide +kernel
  have hb : ∀ k, k < 29 → (lensT.getD k (0, 0)).2 ≤ 5 := by decide +kernel
  refine ⟨hl, by have := hs.1; show 0 ≤ n - (lensT.getD (codeG (lensT.drop 1) n) (0, 0)).1; omega, ?_, hb _ hl⟩
  by_cases h28 : codeF lensT n < 28
  · have h1 := hs.2 h28
    have h2 := ht _ h28
    unfold codeF at h2 ⊢
    omega
  · have : codeF lensT n = 28 := by omega
    rw [this]
    show n - 258 < 2 ^ 0
    omega
theorem dist_ok {n : Int} (h : 1 ≤ n) (h2 : n ≤ 32768) : codeF distT n < 30 ∧ 0 ≤ n - (distT.getD (codeF distT n) (0, 0)).1 ∧ n - (distT.getD (codeF distT n) (0, 0)).1 < 2 ^ (distT.getD (codeF distT n) (0, 0)).2 ∧ (distT.getD (codeF distT n) (0, 0)).2 ≤ 13 := by
  have hs := codeG_spec (distT.drop 1) (1, 0) n h
  have hl : codeF distT n < 30 := codeF_lt distT n (by decide)
  have e : (((1, 0) :: distT.drop 1 : List (Int × Nat))) = distT := rfl
  rw [e] at hs
  have ht : ∀ k, k < 29 → (distT.getD (k + 1) (0, 0)).1 ≤ (distT.getD k (0, 0)).1 + 2 ^ (distT.getD k (0, 0)).2 := by decide +kernel
  have hb : ∀ k, k < 30 → (distT.getD k (0, 0)).2 ≤ 13 := by decide +kernel
  refine ⟨hl, by have := hs.1; show 0 ≤ n - (distT.getD (codeG (distT.drop 1) n) (0, 0)).1; omega, ?_, hb _ hl⟩
  by_cases h28 : codeF distT n < 29
  · have h1 := hs.2 h28
    have h2 := ht _ h28
    unfold codeF at h2 ⊢
    omega
  · have : codeF distT n = 29 := by omega
    rw [this]
    show n - 24577 < 2 ^ 13
    omega
/-! What stood ahead. -/
theorem bt_byte (s : ByteArray) (i : Int) : 0 ≤ bt s i ∧ bt s i < 256 := by
  unfold bt
  split
  · rename_i h; have := (s[i.toNat]'h).toNat_lt; omega
  · omega
/-- How many bytes stand at j as at at, so many at most. -/
def alk (s : ByteArray) : Nat → Nat → Nat → Nat
  | 0, _, _ => 0
  | k + 1, j, at_ => if at_ < s.size ∧ bt s at_ = bt s j then alk s k (j + 1) (at_ + 1) + 1 else 0
theorem alk_le (s : ByteArray) : ∀ k j at_, alk s k j at_ ≤ k
  | 0, _, _ => Nat.le_refl _
  | k + 1, j, at_ => by rw [alk]; split; have := alk_le s k (j + 1) (at_ + 1); omega; exact Nat.zero_le _
theorem alk_size (s : ByteArray) : ∀ k j at_, at_ ≤ s.size → at_ + alk s k j at_ ≤ s.size
  | 0, _, _, h => h
  | k + 1, j, at_, h => by rw [alk]; split; have := alk_size s k (j + 1) (at_ + 1) (by omega); omega; exact h
theorem alk_same (s : ByteArray) : ∀ k j at_ i, i < alk s k j at_ → bt s ((at_ + i : Nat) : Int) = bt s ((j + i : Nat) : Int)
  | 0, _, _, i, h => absurd h (Nat.not_lt_zero _)
  | k + 1, j, at_, i, h => by
    rw [alk] at h
    split at h
    · rename_i hc
      cases i with
      | zero => exact hc.2
      | succ i =>
        have := alk_same s k (j + 1) (at_ + 1) i (by omega)
        rw [show at_ + (i + 1) = at_ + 1 + i by omega, show j + (i + 1) = j + 1 + i by omega]
        exact this
    · exact absurd h (Nat.not_lt_zero _)
def key3 (s : ByteArray) (i : Nat) : Int := bt s i * 65536 + bt s ((i + 1 : Nat) : Int) * 256 + bt s ((i + 2 : Nat) : Int)
/-- The longest of the places below jj. -/
def goL (s : ByteArray) (at_ : Nat) : Nat → Nat → Nat → Nat × Nat
  | 0, l, b => (l, b)
  | j + 1, l, b => if key3 s j = key3 s at_ then
      if 32768 < at_ - j then (l, b) else if alk s 258 j at_ ≤ l then goL s at_ j l b else if alk s 258 j at_ = 258 then (alk s 258 j at_, at_ - j) else goL s at_ j (alk s 258 j at_) (at_ - j)
    else goL s at_ j l b
def findF (s : ByteArray) (at_ : Nat) : Nat × Nat := if s.size < at_ + 3 then (0, 0) else goL s at_ at_ 0 0
/-- What was found stands there. -/
theorem goL_ok (s : ByteArray) (at_ : Nat) (hat : at_ ≤ s.size) : ∀ jj l b, jj ≤ at_ → (l = 0 ∨ (1 ≤ b ∧ b ≤ at_ ∧ b ≤ 32768 ∧ l = alk s 258 (at_ - b) at_)) →
    (goL s at_ jj l b).1 = 0 ∨ (1 ≤ (goL s at_ jj l b).2 ∧ (goL s at_ jj l b).2 ≤ at_ ∧ (goL s at_ jj l b).2 ≤ 32768 ∧ (goL s at_ jj l b).1 = alk s 258 (at_ - (goL s at_ jj l b).2) at_)
  | 0, l, b, _, h => h
  | j + 1, l, b, hj, h => by
    rw [goL]
    split
    · split
      · exact h
      · rename_i hfar
        split
        · exact goL_ok s at_ hat j l b (by omega) h
        · split
          · exact .inr ⟨by show 1 ≤ at_ - j; omega, by show at_ - j ≤ at_; omega, by show at_ - j ≤ 32768; omega, by show alk s 258 j at_ = alk s 258 (at_ - (at_ - j)) at_; rw [show at_ - (at_ - j) = j by omega]⟩
          · exact goL_ok s at_ hat j _ _ (by omega) (.inr ⟨by omega, by omega, by omega, by rw [show at_ - (at_ - j) = j by omega]⟩)
    · exact goL_ok s at_ hat j l b (by omega) h
theorem find_ok (s : ByteArray) (at_ : Nat) (hat : at_ ≤ s.size) : (findF s at_).1 = 0 ∨ (1 ≤ (findF s at_).2 ∧ (findF s at_).2 ≤ at_ ∧ (findF s at_).2 ≤ 32768 ∧ (findF s at_).1 = alk s 258 (at_ - (findF s at_).2) at_) := by
  unfold findF
  split
  · exact .inl rfl
  · exact goL_ok s at_ hat at_ 0 0 (Nat.le_refl _) (.inl rfl)
theorem find_le (s : ByteArray) (at_ : Nat) (hat : at_ ≤ s.size) : (findF s at_).1 ≤ 258 ∧ at_ + (findF s at_).1 ≤ s.size := by
  rcases find_ok s at_ hat with h | ⟨_, _, _, h⟩
  · rw [h]; omega
  · rw [h]; exact ⟨alk_le _ _ _ _, alk_size _ _ _ _ hat⟩
/-! The bits of the fixed codes. -/
def symB (l : List Int) (k : Nat) : List Int := revB ((codesF l).getD k 0) (l.getD k 0).toNat
def copyB (n back : Int) : List Int :=
  symB fixLit (257 + codeF lensT n) ++ bitsN (n - (lensT.getD (codeF lensT n) (0, 0)).1) (lensT.getD (codeF lensT n) (0, 0)).2 ++ (symB fixDist (codeF distT back) ++ bitsN (back - (distT.getD (codeF distT back) (0, 0)).1) (distT.getD (codeF distT back) (0, 0)).2)
def fixG (s : ByteArray) : Nat → Nat → List Int
  | 0, _ => []
  | k + 1, at_ => if at_ < s.size then
      if (findF s at_).1 < 3 then symB fixLit (bt s at_).toNat ++ fixG s k (at_ + 1) else copyB (findF s at_).1 (findF s at_).2 ++ fixG s k (at_ + (findF s at_).1)
    else symB fixLit 256
def fixBits (s : ByteArray) : List Int := bitsN 1 1 ++ bitsN 1 2 ++ fixG s (s.size + 1) 0
def fixF (s : ByteArray) : ByteArray := textL (fixBits s)
/-- More rounds than are needed turn nothing. -/
theorem fixG_more (s : ByteArray) : ∀ k k' at_, at_ ≤ s.size → s.size < at_ + k → s.size < at_ + k' → fixG s k at_ = fixG s k' at_
  | 0, _, at_, h, h1, h2 => by omega
  | _ + 1, 0, at_, h, h1, h2 => by omega
  | k + 1, k' + 1, at_, h, h1, h2 => by
    rw [fixG, fixG]
    split
    · have hf := (find_le s at_ h).2
      split
      · rw [fixG_more s k k' (at_ + 1) (by omega) (by omega) (by omega)]
      · rw [fixG_more s k k' _ hf (by omega) (by omega)]
    · rfl
/-! Bytes as they are. -/
def headB (s : ByteArray) (L : List Int) : List Int :=
  alignL (L ++ bitsN (if s.size ≤ 65535 then 1 else 0) 1 ++ bitsN 0 2) ++ bitsN ((min s.size 65535 : Nat) : Int) 16 ++ bitsN (65535 - (min s.size 65535 : Nat) : Int) 16
def storeB : Nat → ByteArray → List Int → List Int
  | 0, _, L => L
  | k + 1, s, L => if s.size ≤ 65535 then headB s L ++ flat (bytesOf s) else storeB k (s.extract 65535 s.size) (headB s L ++ flat (bytesOf (s.extract 0 65535)))
def storeF (s : ByteArray) : ByteArray := textL (storeB (s.size / 65535 + 1) s [])
def bestF (s : ByteArray) : ByteArray := if (fixF s).size < (storeF s).size then fixF s else storeF s
end Go.Proofs.Ytfoicjlkbkjfjaa.Hand
namespace Go.Proofs.Ytfoicjlkbkjfjaa.Hand
open Go.RowKit Go.Proofs.YtfoicjlkbkjfjaaW.PrintWords Go.Proofs.YtfoicjlkbkjfjaaW.PrintLast Go.Proofs.YtfoicjlkbkjfjaaW.PrintMore Go.Proofs.Ytfoicjlkbkjfjaa.Num Go.Proofs.Ytfoicjlkbkjfjaa.Bits
set_option linter.unusedVariables false
set_option linter.unusedSimpArgs false
def spanC (l : List (Int × Nat)) : List Value := l.flatMap (fun x => [.int .i64 x.1, .int .i64 (x.2 : Int)])
theorem spanC_get : ∀ (l : List (Int × Nat)) (i : Nat), i < l.length → (spanC l)[i * 2]? = some (.int .i64 (l.getD i (0, 0)).1) ∧ (spanC l)[i * 2 + 1]? = some (.int .i64 ((l.getD i (0, 0)).2 : Int))
  | [], i, h => absurd h (Nat.not_lt_zero _)
  | a :: l, 0, _ => ⟨rfl, rfl⟩
  | a :: l, i + 1, h => by
    have hh := spanC_get l i (by simpa using h)
    have e : ∀ j, (spanC (a :: l))[j + 2]? = (spanC l)[j]? := fun j => rfl
    rw [show (i + 1) * 2 = i * 2 + 2 by omega, show i * 2 + 2 + 1 = (i * 2 + 1) + 2 by omega, e, e, List.getD_cons_succ]
    exact hh
/-- A table of spans lies in a block. -/
structure Tab (w : World) (B : Nat) (A : Addr) (T : List (Int × Nat)) : Prop where
  low : B ≤ A.block
  at_ : ∀ i, i < T.length → w.cell? (A.add (i * 2)) = some (.int .i64 (T.getD i (0, 0)).1) ∧ w.cell? ⟨(A.add (i * 2)).block, (A.add (i * 2)).off + 1, none⟩ = some (.int .i64 ((T.getD i (0, 0)).2 : Int))
theorem infoSpanS : (Try.prog.info? 98).map (fun i => (i.size, i.zero)) = some (2, some (.agg #[.int .i64 0, .int .i64 0])) := by kernel_rfl
theorem spanS_parts : ∃ ie, Try.prog.info? 98 = some ie ∧ ie.zero = some (.agg #[.int .i64 0, .int .i64 0]) ∧ ie.size = 2 := by
  obtain ⟨ie, h1, h2⟩ := Option.map_eq_some_iff.1 infoSpanS
  simp only [Prod.mk.injEq] at h2
  exact ⟨ie, h1, h2.2, h2.1⟩
/-- A table lies in a block of its own. -/
def TabAt (w : World) (g0 : Nat) (T : List (Int × Nat)) : Prop := w.heap[g0]? = some (.cells (spanC T).toArray 98 (0, 0))
theorem TabAt.tab {w : World} {g0 : Nat} {T : List (Int × Nat)} (h : TabAt w g0 T) : Tab w g0 ⟨g0, 0, none⟩ T := by
  refine ⟨Nat.le_refl _, fun i hi => ?_⟩
  obtain ⟨h0, h1⟩ := spanC_get T i hi
  have e : ((⟨g0, 0, none⟩ : Addr).add (i * 2)) = ⟨g0, i * 2, none⟩ := by unfold Addr.add; simp; omega
  rw [e]
  exact ⟨(blk_cell h (i * 2)).trans (by simpa using h0), (blk_cell h (i * 2 + 1)).trans (by simpa using h1)⟩
set_option maxRecDepth 100000 in
set_option maxHeartbeats 4000000 in
theorem slengths_calls (w : World) : Calls Try.prog 55 #[] w fun e w' => ∃ g0, e = .returned (.slice (some ⟨g0, 0, none⟩) 29 29) ∧ TabAt w' g0 lensT ∧ w.heap.size ≤ g0 ∧ Below w.heap.size w w' := by
  obtain ⟨ie, hie, hz, hsz⟩ := spanS_parts
  go_enter Try.func55, Try.ntmps55
  obtain ⟨sv, hsv⟩ : ∃ sv : List Value, sv = spanC lensT := ⟨_, rfl⟩
  have HS := Aside0.mk hsv
  clear hsv
  go_wp2_with (refine wpList_buildSlice rfl 94 98 29 _ rfl sv.toArray ie (.agg #[.int .i64 0, .int .i64 0]) Try.underlying94 hie hz (by rw [hsz]; decide) (by rw [hsz]; decide) (by rw [hsz, HS.out]; kernel_rfl) ?_)
  go_returns
  refine ⟨_, rfl, ?_, Nat.le_refl _, below_alloc (Below.refl _ _) _⟩
  rw [HS.out]
  exact blk_new w _
set_option maxRecDepth 100000 in
set_option maxHeartbeats 4000000 in
theorem sdistances_calls (w : World) : Calls Try.prog 56 #[] w fun e w' => ∃ g0, e = .returned (.slice (some ⟨g0, 0, none⟩) 30 30) ∧ TabAt w' g0 distT ∧ w.heap.size ≤ g0 ∧ Below w.heap.size w w' := by
  obtain ⟨ie, hie, hz, hsz⟩ := spanS_parts
  go_enter Try.func56, Try.ntmps56
  obtain ⟨sv, hsv⟩ : ∃ sv : List Value, sv = spanC distT := ⟨_, rfl⟩
  have HS := Aside0.mk hsv
  clear hsv
  go_wp2_with (refine wpList_buildSlice rfl 94 98 30 _ rfl sv.toArray ie (.agg #[.int .i64 0, .int .i64 0]) Try.underlying94 hie hz (by rw [hsz]; decide) (by rw [hsz]; decide) (by rw [hsz, HS.out]; kernel_rfl) ?_)
  go_returns
  refine ⟨_, rfl, ?_, Nat.le_refl _, below_alloc (Below.refl _ _) _⟩
  rw [HS.out]
  exact blk_new w _
theorem scode_calls (w : World) (A : Addr) (T : List (Int × Nat)) (B : Nat) (n : Int) (hT : Tab w B A T) (hl : T.length ≤ 30) (c : Nat) :
    Calls Try.prog 57 #[.slice (some A) T.length c, .int .i64 n] w fun e w' => e = .returned (.int .i64 (codeF T n : Int)) ∧ w = w' := by
  have HT := Aside0.mk hT
  clear hT
  go_enter Try.func57, Try.ntmps57
  go_wp2_with fail
  go_loopw [5] (fun v5 wr => ∃ k : Nat, v5 = .int .i64 (k : Int) ∧ k ≤ 30 ∧ Aside0 (codeF T n = k + codeG (T.drop (k + 1)) n) ∧ w = wr) (fun v5 _ => (40 - intOf v5).toNat)
  case atStart => exact ⟨0, rfl, by omega, ⟨by rw [Nat.zero_add]; rfl⟩, rfl⟩
  case round =>
    obtain ⟨k, rfl, hk, HC, rfl⟩ := hrel
    by_cases hlt : k + 1 < T.length
    · have q1 : decide ((k : Int) + 1 < (T.length : Int)) = true := decide_eq_true (by omega)
      have hcell := (HT.out.at_ (k + 1) hlt).1
      have HS := Aside0.mk (codeG_step T n k hlt)
      obtain ⟨y, hy⟩ : ∃ y, y = (T.getD (k + 1) (0, 0)).1 := ⟨_, rfl⟩
      rw [← hy] at hcell HS
      clear hy
      by_cases hle : y ≤ n
      · have q2 : decide (y ≤ n) = true := decide_eq_true hle
        go_wp2_with fail
        go_roundw
        case rel => exact ⟨k + 1, by go_num, by omega, ⟨by rw [HC.out, HS.out, if_pos hle]; show _ = _ + codeG (List.drop (k + 2) T) n; omega⟩, trivial⟩
        case measure => simp [intOf]; omega
      · have q2 : decide (y ≤ n) = false := decide_eq_false hle
        go_wp2_with fail
        go_returns
        rw [HC.out, HS.out, if_neg (by omega)]
        exact ⟨rfl, rfl⟩
    · have q1 : decide ((k : Int) + 1 < (T.length : Int)) = false := decide_eq_false (by omega)
      go_wp2_with fail
      go_returns
      have := HC.out
      rw [List.drop_of_length_le (by omega), codeG] at this
      rw [this]
      exact ⟨rfl, rfl⟩
def lastP (s : ByteArray) : Nat → Int → Int
  | 0, _ => -1
  | d + 1, k => if d + 3 ≤ s.size ∧ key3 s d = k then (d : Int) else lastP s d k
def nxt (s : ByteArray) (i : Nat) : Int := if i + 3 ≤ s.size then lastP s i (key3 s i) else -1
theorem key_or (a b c : Int) (ha : 0 ≤ a ∧ a < 256) (hb : 0 ≤ b ∧ b < 256) (hc : 0 ≤ c ∧ c < 256) : bits .or .i64 (bits .or .i64 (a * 65536) (b * 256)) c = a * 65536 + b * 256 + c := by
  have h1 : bits .or .i64 (a * 65536) (b * 256) = a * 65536 + b * 256 := by
    have := bits_join .i64 62 (by decide) (fun n h0 h1 => IntWalk.i64_in _ (by omega)) 16 (a * 65536) (b * 256) (by omega) (by omega) (by omega) (by omega) (by omega) (by omega)
    omega
  rw [h1]
  have := bits_join .i64 62 (by decide) (fun n h0 h1 => IntWalk.i64_in _ (by omega)) 8 (a * 65536 + b * 256) c (by omega) (by omega) (by omega) (by omega) (by omega) (by omega)
  omega
set_option maxHeartbeats 1000000 in
theorem fkey_calls (w : World) (x : Nat) (s : ByteArray) (m v dd : Value) (i : Nat) (hb : w.heap[x]? = some (.cells #[.string s, m, v, dd] 51 (0, 0))) (hi : i + 3 ≤ s.size) (hs : s.size ≤ 1000000) :
    Calls Try.prog 53 #[.pointer (some ⟨x, 0, none⟩), .int .i64 (i : Int)] w fun e w' => e = .returned (.int .i64 (key3 s i)) ∧ Drawn0 w w' := by
  have c0 : w.cell? ⟨x, 0, none⟩ = some (.string s) := (blk_cell hb 0).trans (by simp)
  have e1 : ((i + 1 : Nat) : Int) = (i : Int) + 1 := by omega
  have e2 : ((i + 2 : Nat) : Int) = (i : Int) + 2 := by omega
  have hq := key_or (bt s i) (bt s ((i + 1 : Nat) : Int)) (bt s ((i + 2 : Nat) : Int)) (bt_byte _ _) (bt_byte _ _) (bt_byte _ _)
  have hk3 : key3 s i = bt s (i : Int) * 65536 + bt s ((i : Int) + 1) * 256 + bt s ((i : Int) + 2) := by unfold key3; rw [e1, e2]
  rw [e1, e2, ← hk3] at hq
  clear hk3
  have b0 := bt_byte s i
  have b1 := bt_byte s ((i : Int) + 1)
  have b2 := bt_byte s ((i : Int) + 2)
  have a0 : i < s.size := by omega
  have a1 : i + 1 < s.size := by omega
  have a2 : i + 2 < s.size := by omega
  have n0 : (s[i].toNat : Int) = bt s (i : Int) := (bt_nat s i a0).symm
  have n1 : (s[i + 1].toNat : Int) = bt s ((i : Int) + 1) := (bt_nat s (i + 1) a1).symm
  have a3 : ((i : Int) + 2).toNat < s.size := by omega
  have n2 : ((s[((i : Int) + 2).toNat]'a3).toNat : Int) = bt s ((i : Int) + 2) := bt_at s _ a3
  generalize bt s (i : Int) = y0 at *
  generalize bt s ((i : Int) + 1) = y1 at *
  generalize bt s ((i : Int) + 2) = y2 at *
  have HQ := Aside0.mk hq
  clear hb hq
  go_enter Try.func53, Try.ntmps53
  go_wp2
  go_quiet (fail)
  go_wp2
  go_returns
  rw [HQ.out]
  exact ⟨rfl, ⟨⟨_, rfl⟩⟩⟩
theorem falike_calls (w : World) (x : Nat) (s : ByteArray) (m v dd : Value) (j at_ : Nat) (hb : w.heap[x]? = some (.cells #[.string s, m, v, dd] 51 (0, 0))) (hj : j ≤ at_) (hat : at_ ≤ s.size) (hs : s.size ≤ 1000000) :
    Calls Try.prog 54 #[.pointer (some ⟨x, 0, none⟩), .int .i64 (j : Int), .int .i64 (at_ : Int)] w fun e w' => e = .returned (.int .i64 (alk s 258 j at_ : Nat)) ∧ Drawn0 w w' := by
  have c0 : w.cell? ⟨x, 0, none⟩ = some (.string s) := (blk_cell hb 0).trans (by simp)
  have hR : ∀ k, k < 258 → alk s (258 - k) (j + k) (at_ + k) = if at_ + k < s.size ∧ bt s ((at_ + k : Nat) : Int) = bt s ((j + k : Nat) : Int) then alk s (258 - (k + 1)) (j + (k + 1)) (at_ + (k + 1)) + 1 else 0 := fun k hk => by
    rw [show 258 - k = (258 - (k + 1)) + 1 by omega, alk]; rfl
  have HR := Aside0.mk hR
  have HC := Aside0.mk c0
  clear hb hR c0
  go_enter Try.func54, Try.ntmps54
  go_wp2_with fail
  go_loopw [7] (fun v7 wr => ∃ n : Nat, v7 = .int .i64 (n : Int) ∧ n ≤ 258 ∧ at_ + n ≤ s.size ∧ Aside0 (alk s 258 j at_ = n + alk s (258 - n) (j + n) (at_ + n) ∧ Drawn0 w wr)) (fun v7 _ => (1000 - intOf v7).toNat)
  case atStart => exact ⟨0, rfl, by omega, by omega, ⟨by simp, Drawn0.refl _⟩⟩
  case round =>
    obtain ⟨n, rfl, hn, hsz, HW⟩ := hrel
    obtain ⟨⟨nd, rfl⟩⟩ := HW.out.2
    have c0 := HC.out
    by_cases h1 : n < 258
    · have q1 : decide ((n : Int) < 258) = true := decide_eq_true (by omega)
      have hr := HR.out n h1
      by_cases h2 : at_ + n < s.size
      · have q2 : decide ((at_ : Int) + (n : Int) < (s.size : Int)) = true := decide_eq_true (by omega)
        have q2n : decide (at_ + n < s.size) = true := decide_eq_true h2
        have w1 : IntKind.i64.wrap ((at_ : Int) + (n : Int)) = (at_ : Int) + (n : Int) := IntWalk.i64_in _ (by omega)
        have w2 : IntKind.i64.wrap ((j : Int) + (n : Int)) = (j : Int) + (n : Int) := IntWalk.i64_in _ (by omega)
        have e1 : ((at_ + n : Nat) : Int) = (at_ : Int) + (n : Int) := by omega
        have e2 : ((j + n : Nat) : Int) = (j : Int) + (n : Int) := by omega
        have a1 : at_ + n < s.size := h2
        have a2 : j + n < s.size := by omega
        have z1 : 0 ≤ (at_ : Int) + (n : Int) ∧ (at_ : Int) + (n : Int) < (s.size : Int) := by omega
        have z2 : 0 ≤ (j : Int) + (n : Int) ∧ (j : Int) + (n : Int) < (s.size : Int) := by omega
        have z3 : ((at_ : Int) + (n : Int)).toNat = at_ + n := by omega
        have z4 : ((j : Int) + (n : Int)).toNat = j + n := by omega
        have n1 : (s[at_ + n].toNat : Int) = bt s ((at_ : Int) + (n : Int)) := by rw [← e1]; exact (bt_nat s (at_ + n) a1).symm
        have n2 : (s[j + n].toNat : Int) = bt s ((j : Int) + (n : Int)) := by rw [← e2]; exact (bt_nat s (j + n) a2).symm
        rw [e1, e2] at hr
        clear e1 e2
        generalize bt s ((at_ : Int) + (n : Int)) = y at *
        generalize bt s ((j : Int) + (n : Int)) = z at *
        by_cases h3 : y = z
        · have q3 : (y == z) = true := beq_iff_eq.2 h3
          rw [if_pos ⟨h2, h3⟩] at hr
          have HH := Aside0.mk hr
          clear hr h3 HR
          go_wp2_with fail
          go_quiet (fail)
          go_wp2_with fail
          go_roundw
          case rel => exact ⟨n + 1, by go_num, by omega, by omega, ⟨by rw [HW.out.1, HH.out]; omega, ⟨⟨nd + nq, rfl⟩⟩⟩⟩
          case measure => simp [intOf]; omega
        · have q3 : (y == z) = false := beq_eq_false_iff_ne.2 h3
          rw [if_neg (fun h => h3 h.2)] at hr
          have HH := Aside0.mk hr
          clear hr h3 HR
          go_wp2_with fail
          go_quiet (fail)
          go_wp2_with fail
          go_returns
          rw [HW.out.1, HH.out]
          exact ⟨rfl, ⟨⟨nd + nq, World.drewN_drewN _ _ _⟩⟩⟩
      · have q2 : decide ((at_ : Int) + (n : Int) < (s.size : Int)) = false := decide_eq_false (by omega)
        rw [if_neg (fun h => h2 h.1)] at hr
        have HH := Aside0.mk hr
        clear hr HR
        go_wp2_with fail
        go_quiet (fail)
        go_wp2_with fail
        go_returns
        rw [HW.out.1, HH.out]
        exact ⟨rfl, ⟨⟨nd + nq, World.drewN_drewN _ _ _⟩⟩⟩
    · have q1 : decide ((n : Int) < 258) = false := decide_eq_false (by omega)
      obtain rfl : n = 258 := by omega
      go_wp2_with fail
      go_quiet (fail)
      go_wp2_with fail
      go_returns
      rw [HW.out.1]
      exact ⟨rfl, ⟨⟨nd + nq, World.drewN_drewN _ _ _⟩⟩⟩
end Go.Proofs.Ytfoicjlkbkjfjaa.Hand
