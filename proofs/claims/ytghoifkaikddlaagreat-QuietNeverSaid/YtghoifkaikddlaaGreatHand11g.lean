/- A map from numbers to numbers from 0 on, of the call's own: what it answers. Squeeze in plain numbers: the longest piece that stood ahead, the fixed codes' bits, the text of bits. Squeeze: the spans' tables and codes, a piece's key, how far two pieces are alike; walked by hand. Squeeze: the finder in memory, the places that it notes; walked by hand. Squeeze: the longest piece that stood ahead; walked by hand. -/
import Derived.Test.YtghoifkaikddlaaGreatBits
import Derived.Maps.OwnOps
import Derived.Maps.Views
import Derived.Handy
import Derived.Test.YtghoifkaikddlaaGreatInf
import Derived.Great.BuildSlice
import Derived.WalkMore
namespace Go.Proofs.YtghoifkaikddlaaGreat.Hand
open Go.RowKit Go.Proofs.YtghoifkaikddlaaGreatW.PrintWords Go.Proofs.YtghoifkaikddlaaGreatW.PrintLast Go.Proofs.YtghoifkaikddlaaGreatW.PrintMore
open Go.Maps (Keyed)
set_option linter.unusedVariables false
set_option linter.unusedSimpArgs false
structure MapAt (w : World) (B mb n : Nat) (F : Int → Int) : Prop where
 low : B ≤ mb
 open_ : ∃ D : DataW Unit, w.ownsMap Tryz.prog 3 (plainElem Tryz.prog 3) mb n D ∧ ∀ k, (Lit.int .i64 k).wf = true → ∀ z, D.atKey (.int .i64 k) z = if F k < 0 then z else .lit (.int .i64 (F k))
theorem MapAt.lt {w : World} {B mb n : Nat} {F : Int → Int} (h : MapAt w B mb n F) : mb < w.heap.size := by obtain ⟨D, h1, _⟩ := h.open_; exact h1.lt
theorem MapAt.blk {w : World} {B mb n : Nat} {F : Int → Int} (h : MapAt w B mb n F) : ∃ es c, w.heap[mb]? = some (.map es c) := by
 obtain ⟨D, ⟨es, c, hb, _⟩, _⟩ := h.open_; exact ⟨es, c, hb⟩
theorem MapAt.ne {w : World} {B mb n : Nat} {F : Int → Int} (h : MapAt w B mb n F) {g : Nat} {cs : Array Value} {t : TypeId} {fr : Nat × Nat} (hb : w.heap[g]? = some (.cells cs t fr)) : mb ≠ g := by
 obtain ⟨es, c, hm⟩ := h.blk
 rintro rfl
 rw [hm] at hb; cases hb
theorem MapAt.same {w w' : World} {B mb n : Nat} {F : Int → Int} (h : MapAt w B mb n F) (hb : w'.heap[mb]? = w.heap[mb]?) : MapAt w' B mb n F := by
 obtain ⟨D, ⟨es, c, h1, h2⟩, h3⟩ := h.open_
 exact ⟨h.low, D, ⟨es, c, hb.trans h1, h2⟩, h3⟩
theorem MapAt.fr {w w' : World} {B mb n : Nat} {F : Int → Int} {S : Nat → Prop} (h : MapAt w B mb n F) (hf : Fr w w' S) (hn : ¬ S mb) : MapAt w' B mb n F := h.same (hf.block mb h.lt hn)
theorem MapAt.mono {w : World} {B mb n n' : Nat} {F : Int → Int} (h : MapAt w B mb n F) (hn : n ≤ n') : MapAt w B mb n' F := by
 obtain ⟨D, h1, h2⟩ := h.open_; exact ⟨h.low, D, h1.mono hn, h2⟩
theorem MapAt.drawn {w w' : World} {B mb n : Nat} {F : Int → Int} (h : MapAt w B mb n F) (hd : Drawn0 w w') : MapAt w' B mb n F := by
 obtain ⟨⟨k, rfl⟩⟩ := hd; exact ⟨h.low, h.open_⟩
theorem MapAt.made (w : World) (B : Nat) (hB : B ≤ w.heap.size) : MapAt (w.alloc (.map #[] 0)) B w.heap.size 0 (fun _ => -1) :=
 ⟨hB, .map [], World.ownsMap_made w _ _ _, fun k _ z => by rw [if_pos (by decide)]; rfl⟩
theorem ownsMap_isMap {w : World} {mb n : Nat} {D : DataW Unit} {P : Program} {k : TypeId} {R : Value → Option (DataW Unit × List MemPlace)} (h : w.ownsMap P k R mb n D) : Go.Maps.IsMap D := by
 obtain ⟨es, c, _, _, _, rfl⟩ := h
 exact ⟨_, rfl⟩
theorem zeroI (w : World) : (zeroValue 3).run Tryz.prog w = .ok (.int .i64 0) w := by kernel_rfl
set_option maxRecDepth 100000 in
theorem MapAt.look {w : World} {B mb n : Nat} {F : Int → Int} (h : MapAt w B mb n F) (k : Int) (hk : (Lit.int .i64 k).wf = true) :
  (Instr.lookup 144 (.map (some mb)) (.int .i64 k) true).run Tryz.prog w = .ok (.tuple #[.int .i64 (if F k < 0 then 0 else F k), .bool (decide (0 ≤ F k))]) w := by
 obtain ⟨D, ⟨es, c, hb, hF, _, rfl⟩, hD⟩ := h.open_
 have hz := zeroI w
 rcases Go.Maps.fit_look true (Go.Maps.int_keyed Tryz.underlying3) Tryz.underlying144 hz hb hF (Go.Maps.keyOf_int_mk Tryz.underlying3 hk) with ⟨hr, _, hat⟩ | ⟨e0, y, _, _, hr, hR, hat, _⟩
 ·have hneg : F k < 0 := by
   rcases Int.lt_or_le (F k) 0 with hlt | hge
   ·exact hlt
   ·have h1 := hD k hk (.lit (.bool true))
    rw [hat, if_neg (by omega)] at h1
    cases h1
  rw [hr, if_pos hneg, decide_eq_false (show ¬ 0 ≤ F k by omega)]
  simp
 ·obtain ⟨a, ha, rfl, _⟩ := plainElem_int_inv Tryz.underlying3 hR
  have hge : ¬ F k < 0 := by
   intro hlt
   have h1 := hD k hk (.lit (.bool true))
   rw [hat, if_pos hlt] at h1
   cases h1
  have h1 := hD k hk (.lit (.bool true))
  rw [hat, if_neg hge] at h1
  injection h1 with h1
  injection h1 with _ h1
  rw [hr, ha, if_neg hge, decide_eq_true (show 0 ≤ F k by omega), h1]
  simp
theorem MapAt.put {w : World} {B mb n : Nat} {F : Int → Int} (h : MapAt w B mb n F) (hn : n < maxLen) (k v : Int) (hk : (Lit.int .i64 k).wf = true) (hv : (Lit.int .i64 v).wf = true) (hv0 : 0 ≤ v) :
  ∃ w', (Instr.mapUpdate 144 (.map (some mb)) (.int .i64 k) (.int .i64 v)).run Tryz.prog w = .ok () w' ∧ MapAt w' B mb (n + 1) (fun x => if x = k then v else F x) ∧ w.grownBy w' (some mb) := by
 obtain ⟨D, h1, hD⟩ := h.open_
 obtain ⟨w', hr, h2, h3⟩ := h1.update (Go.Maps.int_keyed Tryz.underlying3) Tryz.underlying144 hn (Go.Maps.keyOf_int_mk Tryz.underlying3 hk) (plainElem_int Tryz.underlying3 hv)
 refine ⟨w', hr, ⟨h.low, _, h2, fun x hx z => ?_⟩, h3⟩
 by_cases hxk : x = k
 ·subst hxk
  rw [Go.Maps.atKey_put_same (ownsMap_isMap h1) (show WideAt.IsKeyLit (.int .i64 x) from trivial)]
  simp only [if_true]
  rw [if_neg (by omega)]
 ·rw [Go.Maps.atKey_put_other (by intro he; injection he with _ he; exact hxk he), hD x hx]
  simp only [if_neg hxk]
end Go.Proofs.YtghoifkaikddlaaGreat.Hand
namespace Go.Proofs.YtghoifkaikddlaaGreat.Hand
open Go.RowKit Go.Proofs.YtghoifkaikddlaaGreatW.PrintWords Go.Proofs.YtghoifkaikddlaaGreatW.PrintLast Go.Proofs.YtghoifkaikddlaaGreatW.PrintMore Go.Proofs.YtghoifkaikddlaaGreat.Num Go.Proofs.YtghoifkaikddlaaGreat.Bits
set_option linter.unusedVariables false
set_option linter.unusedSimpArgs false
def numB : List Int → Int
 | [] => 0
 | b :: t => b + 2 * numB t
def unflat : Nat → List Int → List Int
 | 0, _ => []
 | k + 1, L => numB (L.take 8) :: unflat k (L.drop 8)
def textL (L : List Int) : ByteArray := strOfNums (unflat ((L.length + 7) / 8) (L ++ List.replicate ((8 - L.length % 8) % 8) 0))
theorem numB_bits : ∀ (w : Nat) (y : Int), numB (bitsN y w) = y % 2 ^ w
 | 0, y => by rw [bitsN, numB, Int.pow_zero, Int.emod_one]
 | w + 1, y => by
  rw [bitsN, numB, numB_bits w, Int.pow_succ, Int.mul_comm (2 ^ w) 2]
  have h := Int.emod_add_mul_ediv y 2
  have h1 := Int.emod_add_mul_ediv (y / 2) (2 ^ w)
  have h2 := Int.emod_add_mul_ediv y (2 * 2 ^ w)
  have h3 : y / (2 * 2 ^ w) = y / 2 / 2 ^ w := by rw [Int.ediv_ediv_of_nonneg (by decide)]
  rw [h3, Int.mul_assoc] at h2
  omega
theorem unflat_flat : ∀ ys : List Int, (∀ y ∈ ys, 0 ≤ y ∧ y < 256) → unflat ys.length (flat ys) = ys
 | [], _ => rfl
 | y :: ys, h => by
  have h0 := h y (List.mem_cons_self ..)
  rw [List.length_cons, unflat, flat_cons, List.take_append_of_le_length (by rw [bitsN_length]; omega), List.drop_append_of_le_length (by rw [bitsN_length]; omega), List.take_of_length_le (by rw [bitsN_length]; omega), List.drop_of_length_le (by rw [bitsN_length]; omega), List.nil_append, unflat_flat ys (fun z hz => h z (List.mem_cons_of_mem _ hz)), numB_bits]
  congr 1
  exact Int.emod_eq_of_lt h0.1 h0.2
theorem TextOf.textL {L : List Int} {t : ByteArray} (h : TextOf L t) : t = textL L := by
 unfold Hand.textL
 rw [← h.eq, ← h.size, ← bytesOf_length, unflat_flat _ (bytes_range t)]
 exact (strOfNums_bytesOf t).symm
def codeG : List (Int × Nat) → Int → Nat
 | [], _ => 0
 | x :: t, n => if x.1 ≤ n then codeG t n + 1 else 0
def codeF (T : List (Int × Nat)) (n : Int) : Nat := codeG (T.drop 1) n
theorem codeG_le : ∀ (T : List (Int × Nat)) (n : Int), codeG T n ≤ T.length
 | [], _ => Nat.le_refl _
 | x :: t, n => by rw [codeG]; split; have := codeG_le t n; simp; exact this; exact Nat.zero_le _
theorem codeF_lt (T : List (Int × Nat)) (n : Int) (h : 0 < T.length) : codeF T n < T.length := by
 have := codeG_le (T.drop 1) n
 rw [List.length_drop] at this
 unfold codeF; omega
theorem codeG_step (T : List (Int × Nat)) (n : Int) (k : Nat) (h : k + 1 < T.length) : codeG (T.drop (k + 1)) n = if (T.getD (k + 1) (0, 0)).1 ≤ n then codeG (T.drop (k + 2)) n + 1 else 0 := by
 rw [List.drop_eq_getElem_cons h, codeG, List.getD_eq_getElem?_getD, List.getElem?_eq_getElem h, Option.getD_some]
theorem codeG_spec : ∀ (T : List (Int × Nat)) (x : Int × Nat) (n : Int), x.1 ≤ n → ((x :: T).getD (codeG T n) (0, 0)).1 ≤ n ∧ (codeG T n < T.length → n < ((x :: T).getD (codeG T n + 1) (0, 0)).1)
 | [], x, n, h => ⟨h, fun h => absurd h (Nat.lt_irrefl _)⟩
 | y :: t, x, n, h => by
  rw [codeG]
  by_cases hy : y.1 ≤ n
  ·rw [if_pos hy]
   have := codeG_spec t y n hy
   exact ⟨this.1, fun hh => this.2 (by simpa using hh)⟩
  ·rw [if_neg hy]
   exact ⟨h, fun _ => by show n < y.1; omega⟩
theorem lens_ok {n : Int} (h : 3 ≤ n) (h2 : n ≤ 258) : codeF lensT n < 29 ∧ 0 ≤ n - (lensT.getD (codeF lensT n) (0, 0)).1 ∧ n - (lensT.getD (codeF lensT n) (0, 0)).1 < 2 ^ (lensT.getD (codeF lensT n) (0, 0)).2 ∧ (lensT.getD (codeF lensT n) (0, 0)).2 ≤ 5 := by
 have hs := codeG_spec (lensT.drop 1) (3, 0) n h
 have hl : codeF lensT n < 29 := codeF_lt lensT n (by decide)
 have e : (((3, 0) :: lensT.drop 1 : List (Int × Nat))) = lensT := rfl
 rw [e] at hs
 have ht : ∀ k, k < 28 → (lensT.getD (k + 1) (0, 0)).1 ≤ (lensT.getD k (0, 0)).1 + 2 ^ (lensT.getD k (0, 0)).2 := by decide +kernel
 have hb : ∀ k, k < 29 → (lensT.getD k (0, 0)).2 ≤ 5 := by decide +kernel
 refine ⟨hl, by have := hs.1; show 0 ≤ n - (lensT.getD (codeG (lensT.drop 1) n) (0, 0)).1; omega, ?_, hb _ hl⟩
 by_cases h28 : codeF lensT n < 28
 ·have h1 := hs.2 h28
  have h2 := ht _ h28
  unfold codeF at h2 ⊢
  omega
 ·have : codeF lensT n = 28 := by omega
  rw [this]
  show n - 258 < 2 ^ 0
  omega
theorem dist_ok {n : Int} (h : 1 ≤ n) (h2 : n ≤ 32768) : codeF distT n < 30 ∧ 0 ≤ n - (distT.getD (codeF distT n) (0, 0)).1 ∧ n - (distT.getD (codeF distT n) (0, 0)).1 < 2 ^ (distT.getD (codeF distT n) (0, 0)).2 ∧ (distT.getD (codeF distT n) (0, 0)).2 ≤ 13 := by
 have hs := codeG_spec (distT.drop 1) (1, 0) n h
 have hl : codeF distT n < 30 := codeF_lt distT n (by decide)
 have e : (((1, 0) :: distT.drop 1 : List (Int × Nat))) = distT := rfl
 rw [e] at hs
 have ht : ∀ k, k < 29 → (distT.getD (k + 1) (0, 0)).1 ≤ (distT.getD k (0, 0)).1 + 2 ^ (distT.getD k (0, 0)).2 := by decide +kernel
 have hb : ∀ k, k < 30 → (distT.getD k (0, 0)).2 ≤ 13 := by decide +kernel
 refine ⟨hl, by have := hs.1; show 0 ≤ n - (distT.getD (codeG (distT.drop 1) n) (0, 0)).1; omega, ?_, hb _ hl⟩
 by_cases h28 : codeF distT n < 29
 ·have h1 := hs.2 h28
  have h2 := ht _ h28
  unfold codeF at h2 ⊢
  omega
 ·have : codeF distT n = 29 := by omega
  rw [this]
  show n - 24577 < 2 ^ 13
  omega
theorem bt_byte (s : ByteArray) (i : Int) : 0 ≤ bt s i ∧ bt s i < 256 := by
 unfold bt
 split
 ·rename_i h; have := (s[i.toNat]'h).toNat_lt; omega
 ·omega
def alk (s : ByteArray) : Nat → Nat → Nat → Nat
 | 0, _, _ => 0
 | k + 1, j, at_ => if at_ < s.size ∧ bt s at_ = bt s j then alk s k (j + 1) (at_ + 1) + 1 else 0
theorem alk_le (s : ByteArray) : ∀ k j at_, alk s k j at_ ≤ k
 | 0, _, _ => Nat.le_refl _
 | k + 1, j, at_ => by rw [alk]; split; have := alk_le s k (j + 1) (at_ + 1); omega; exact Nat.zero_le _
theorem alk_size (s : ByteArray) : ∀ k j at_, at_ ≤ s.size → at_ + alk s k j at_ ≤ s.size
 | 0, _, _, h => h
 | k + 1, j, at_, h => by rw [alk]; split; have := alk_size s k (j + 1) (at_ + 1) (by omega); omega; exact h
theorem alk_same (s : ByteArray) : ∀ k j at_ i, i < alk s k j at_ → bt s ((at_ + i : Nat) : Int) = bt s ((j + i : Nat) : Int)
 | 0, _, _, i, h => absurd h (Nat.not_lt_zero _)
 | k + 1, j, at_, i, h => by
  rw [alk] at h
  split at h
  ·rename_i hc
   cases i with
   | zero => exact hc.2
   | succ i =>
    have := alk_same s k (j + 1) (at_ + 1) i (by omega)
    rw [show at_ + (i + 1) = at_ + 1 + i by omega, show j + (i + 1) = j + 1 + i by omega]
    exact this
  ·exact absurd h (Nat.not_lt_zero _)
def key3 (s : ByteArray) (i : Nat) : Int := bt s i * 65536 + bt s ((i + 1 : Nat) : Int) * 256 + bt s ((i + 2 : Nat) : Int)
def goL (s : ByteArray) (at_ : Nat) : Nat → Nat → Nat → Nat × Nat
 | 0, l, b => (l, b)
 | j + 1, l, b => if key3 s j = key3 s at_ then
   if 32768 < at_ - j then (l, b) else if alk s 258 j at_ ≤ l then goL s at_ j l b else if alk s 258 j at_ = 258 then (alk s 258 j at_, at_ - j) else goL s at_ j (alk s 258 j at_) (at_ - j)
  else goL s at_ j l b
def findF (s : ByteArray) (at_ : Nat) : Nat × Nat := if s.size < at_ + 3 then (0, 0) else goL s at_ at_ 0 0
theorem goL_ok (s : ByteArray) (at_ : Nat) (hat : at_ ≤ s.size) : ∀ jj l b, jj ≤ at_ → (l = 0 ∨ (1 ≤ b ∧ b ≤ at_ ∧ b ≤ 32768 ∧ l = alk s 258 (at_ - b) at_)) →
  (goL s at_ jj l b).1 = 0 ∨ (1 ≤ (goL s at_ jj l b).2 ∧ (goL s at_ jj l b).2 ≤ at_ ∧ (goL s at_ jj l b).2 ≤ 32768 ∧ (goL s at_ jj l b).1 = alk s 258 (at_ - (goL s at_ jj l b).2) at_)
 | 0, l, b, _, h => h
 | j + 1, l, b, hj, h => by
  rw [goL]
  split
  ·split
   ·exact h
   ·rename_i hfar
    split
    ·exact goL_ok s at_ hat j l b (by omega) h
    ·split
     ·exact .inr ⟨by show 1 ≤ at_ - j; omega, by show at_ - j ≤ at_; omega, by show at_ - j ≤ 32768; omega, by show alk s 258 j at_ = alk s 258 (at_ - (at_ - j)) at_; rw [show at_ - (at_ - j) = j by omega]⟩
     ·exact goL_ok s at_ hat j _ _ (by omega) (.inr ⟨by omega, by omega, by omega, by rw [show at_ - (at_ - j) = j by omega]⟩)
  ·exact goL_ok s at_ hat j l b (by omega) h
theorem find_ok (s : ByteArray) (at_ : Nat) (hat : at_ ≤ s.size) : (findF s at_).1 = 0 ∨ (1 ≤ (findF s at_).2 ∧ (findF s at_).2 ≤ at_ ∧ (findF s at_).2 ≤ 32768 ∧ (findF s at_).1 = alk s 258 (at_ - (findF s at_).2) at_) := by
 unfold findF
 split
 ·exact .inl rfl
 ·exact goL_ok s at_ hat at_ 0 0 (Nat.le_refl _) (.inl rfl)
theorem find_le (s : ByteArray) (at_ : Nat) (hat : at_ ≤ s.size) : (findF s at_).1 ≤ 258 ∧ at_ + (findF s at_).1 ≤ s.size := by
 rcases find_ok s at_ hat with h | ⟨_, _, _, h⟩
 ·rw [h]; omega
 ·rw [h]; exact ⟨alk_le _ _ _ _, alk_size _ _ _ _ hat⟩
def symB (l : List Int) (k : Nat) : List Int := revB ((codesF l).getD k 0) (l.getD k 0).toNat
def copyB (n back : Int) : List Int :=
 symB fixLit (257 + codeF lensT n) ++ bitsN (n - (lensT.getD (codeF lensT n) (0, 0)).1) (lensT.getD (codeF lensT n) (0, 0)).2 ++ (symB fixDist (codeF distT back) ++ bitsN (back - (distT.getD (codeF distT back) (0, 0)).1) (distT.getD (codeF distT back) (0, 0)).2)
def fixG (s : ByteArray) : Nat → Nat → List Int
 | 0, _ => []
 | k + 1, at_ => if at_ < s.size then
   if (findF s at_).1 < 3 then symB fixLit (bt s at_).toNat ++ fixG s k (at_ + 1) else copyB (findF s at_).1 (findF s at_).2 ++ fixG s k (at_ + (findF s at_).1)
  else symB fixLit 256
def fixBits (s : ByteArray) : List Int := bitsN 1 1 ++ bitsN 1 2 ++ fixG s (s.size + 1) 0
def fixF (s : ByteArray) : ByteArray := textL (fixBits s)
theorem fixG_more (s : ByteArray) : ∀ k k' at_, at_ ≤ s.size → s.size < at_ + k → s.size < at_ + k' → fixG s k at_ = fixG s k' at_
 | 0, _, at_, h, h1, h2 => by omega
 | _ + 1, 0, at_, h, h1, h2 => by omega
 | k + 1, k' + 1, at_, h, h1, h2 => by
  rw [fixG, fixG]
  split
  ·have hf := (find_le s at_ h).2
   split
   ·rw [fixG_more s k k' (at_ + 1) (by omega) (by omega) (by omega)]
   ·rw [fixG_more s k k' _ hf (by omega) (by omega)]
  ·rfl
def headB (s : ByteArray) (L : List Int) : List Int :=
 alignL (L ++ bitsN (if s.size ≤ 65535 then 1 else 0) 1 ++ bitsN 0 2) ++ bitsN ((min s.size 65535 : Nat) : Int) 16 ++ bitsN (65535 - (min s.size 65535 : Nat) : Int) 16
def storeB : Nat → ByteArray → List Int → List Int
 | 0, _, L => L
 | k + 1, s, L => if s.size ≤ 65535 then headB s L ++ flat (bytesOf s) else storeB k (s.extract 65535 s.size) (headB s L ++ flat (bytesOf (s.extract 0 65535)))
def storeF (s : ByteArray) : ByteArray := textL (storeB (s.size / 65535 + 1) s [])
def bestF (s : ByteArray) : ByteArray := if (fixF s).size < (storeF s).size then fixF s else storeF s
end Go.Proofs.YtghoifkaikddlaaGreat.Hand
namespace Go.Proofs.YtghoifkaikddlaaGreat.Hand
open Go.RowKit Go.Proofs.YtghoifkaikddlaaGreatW.PrintWords Go.Proofs.YtghoifkaikddlaaGreatW.PrintLast Go.Proofs.YtghoifkaikddlaaGreatW.PrintMore Go.Proofs.YtghoifkaikddlaaGreat.Num Go.Proofs.YtghoifkaikddlaaGreat.Bits
set_option linter.unusedVariables false
set_option linter.unusedSimpArgs false
def spanC (l : List (Int × Nat)) : List Value := l.flatMap (fun x => [.int .i64 x.1, .int .i64 (x.2 : Int)])
theorem spanC_get : ∀ (l : List (Int × Nat)) (i : Nat), i < l.length → (spanC l)[i * 2]? = some (.int .i64 (l.getD i (0, 0)).1) ∧ (spanC l)[i * 2 + 1]? = some (.int .i64 ((l.getD i (0, 0)).2 : Int))
 | [], i, h => absurd h (Nat.not_lt_zero _)
 | a :: l, 0, _ => ⟨rfl, rfl⟩
 | a :: l, i + 1, h => by
  have hh := spanC_get l i (by simpa using h)
  have e : ∀ j, (spanC (a :: l))[j + 2]? = (spanC l)[j]? := fun j => rfl
  rw [show (i + 1) * 2 = i * 2 + 2 by omega, show i * 2 + 2 + 1 = (i * 2 + 1) + 2 by omega, e, e, List.getD_cons_succ]
  exact hh
structure Tab (w : World) (B : Nat) (A : Addr) (T : List (Int × Nat)) : Prop where
 low : B ≤ A.block
 at_ : ∀ i, i < T.length → w.cell? (A.add (i * 2)) = some (.int .i64 (T.getD i (0, 0)).1) ∧ w.cell? ⟨(A.add (i * 2)).block, (A.add (i * 2)).off + 1, none⟩ = some (.int .i64 ((T.getD i (0, 0)).2 : Int))
theorem infoSpanS : (Tryz.prog.info? 184).map (fun i => (i.size, i.zero)) = some (2, some (.agg #[.int .i64 0, .int .i64 0])) := by kernel_rfl
theorem spanS_parts : ∃ ie, Tryz.prog.info? 184 = some ie ∧ ie.zero = some (.agg #[.int .i64 0, .int .i64 0]) ∧ ie.size = 2 := by
 obtain ⟨ie, h1, h2⟩ := Option.map_eq_some_iff.1 infoSpanS
 simp only [Prod.mk.injEq] at h2
 exact ⟨ie, h1, h2.2, h2.1⟩
def TabAt (w : World) (g0 : Nat) (T : List (Int × Nat)) : Prop := w.heap[g0]? = some (.cells (spanC T).toArray 184 (0, 0))
theorem TabAt.tab {w : World} {g0 : Nat} {T : List (Int × Nat)} (h : TabAt w g0 T) : Tab w g0 ⟨g0, 0, none⟩ T := by
 refine ⟨Nat.le_refl _, fun i hi => ?_⟩
 obtain ⟨h0, h1⟩ := spanC_get T i hi
 have e : ((⟨g0, 0, none⟩ : Addr).add (i * 2)) = ⟨g0, i * 2, none⟩ := by unfold Addr.add; simp; omega
 rw [e]
 exact ⟨(blk_cell h (i * 2)).trans (by simpa using h0), (blk_cell h (i * 2 + 1)).trans (by simpa using h1)⟩
set_option maxRecDepth 100000 in
set_option maxHeartbeats 4000000 in
theorem slengths_calls (w : World) : Calls Tryz.prog 157 #[] w fun e w' => ∃ g0, e = .returned (.slice (some ⟨g0, 0, none⟩) 29 29) ∧ TabAt w' g0 lensT ∧ w.heap.size ≤ g0 ∧ Below w.heap.size w w' := by
 obtain ⟨ie, hie, hz, hsz⟩ := spanS_parts
 go_enter Tryz.func157, Tryz.ntmps157
 obtain ⟨sv, hsv⟩ : ∃ sv : List Value, sv = spanC lensT := ⟨_, rfl⟩
 have HS := Aside0.mk hsv
 clear hsv
 go_wp2_with (refine wpList_buildSlice rfl 180 184 29 _ rfl sv.toArray ie (.agg #[.int .i64 0, .int .i64 0]) Tryz.underlying180 hie hz (by rw [hsz]; decide) (by rw [hsz]; decide) (by rw [hsz, HS.out]; kernel_rfl) ?_)
 go_returns
 refine ⟨_, rfl, ?_, Nat.le_refl _, below_alloc (Below.refl _ _) _⟩
 rw [HS.out]
 exact blk_new w _
set_option maxRecDepth 100000 in
set_option maxHeartbeats 4000000 in
theorem sdistances_calls (w : World) : Calls Tryz.prog 158 #[] w fun e w' => ∃ g0, e = .returned (.slice (some ⟨g0, 0, none⟩) 30 30) ∧ TabAt w' g0 distT ∧ w.heap.size ≤ g0 ∧ Below w.heap.size w w' := by
 obtain ⟨ie, hie, hz, hsz⟩ := spanS_parts
 go_enter Tryz.func158, Tryz.ntmps158
 obtain ⟨sv, hsv⟩ : ∃ sv : List Value, sv = spanC distT := ⟨_, rfl⟩
 have HS := Aside0.mk hsv
 clear hsv
 go_wp2_with (refine wpList_buildSlice rfl 180 184 30 _ rfl sv.toArray ie (.agg #[.int .i64 0, .int .i64 0]) Tryz.underlying180 hie hz (by rw [hsz]; decide) (by rw [hsz]; decide) (by rw [hsz, HS.out]; kernel_rfl) ?_)
 go_returns
 refine ⟨_, rfl, ?_, Nat.le_refl _, below_alloc (Below.refl _ _) _⟩
 rw [HS.out]
 exact blk_new w _
theorem scode_calls (w : World) (A : Addr) (T : List (Int × Nat)) (B : Nat) (n : Int) (hT : Tab w B A T) (hl : T.length ≤ 30) (c : Nat) :
  Calls Tryz.prog 159 #[.slice (some A) T.length c, .int .i64 n] w fun e w' => e = .returned (.int .i64 (codeF T n : Int)) ∧ w = w' := by
 have HT := Aside0.mk hT
 clear hT
 go_enter Tryz.func159, Tryz.ntmps159
 go_wp2_with fail
 go_loopw [5] (fun v5 wr => ∃ k : Nat, v5 = .int .i64 (k : Int) ∧ k ≤ 30 ∧ Aside0 (codeF T n = k + codeG (T.drop (k + 1)) n) ∧ w = wr) (fun v5 _ => (40 - intOf v5).toNat)
 case atStart => exact ⟨0, rfl, by omega, ⟨by rw [Nat.zero_add]; rfl⟩, rfl⟩
 case round =>
  obtain ⟨k, rfl, hk, HC, rfl⟩ := hrel
  by_cases hlt : k + 1 < T.length
  ·have q1 : decide ((k : Int) + 1 < (T.length : Int)) = true := decide_eq_true (by omega)
   have hcell := (HT.out.at_ (k + 1) hlt).1
   have HS := Aside0.mk (codeG_step T n k hlt)
   obtain ⟨y, hy⟩ : ∃ y, y = (T.getD (k + 1) (0, 0)).1 := ⟨_, rfl⟩
   rw [← hy] at hcell HS
   clear hy
   by_cases hle : y ≤ n
   ·have q2 : decide (y ≤ n) = true := decide_eq_true hle
    go_wp2_with fail
    go_roundw
    case rel => exact ⟨k + 1, by go_num, by omega, ⟨by rw [HC.out, HS.out, if_pos hle]; show _ = _ + codeG (List.drop (k + 2) T) n; omega⟩, trivial⟩
    case measure => simp [intOf]; omega
   ·have q2 : decide (y ≤ n) = false := decide_eq_false hle
    go_wp2_with fail
    go_returns
    rw [HC.out, HS.out, if_neg (by omega)]
    exact ⟨rfl, rfl⟩
  ·have q1 : decide ((k : Int) + 1 < (T.length : Int)) = false := decide_eq_false (by omega)
   go_wp2_with fail
   go_returns
   have := HC.out
   rw [List.drop_of_length_le (by omega), codeG] at this
   rw [this]
   exact ⟨rfl, rfl⟩
def lastP (s : ByteArray) : Nat → Int → Int
 | 0, _ => -1
 | d + 1, k => if d + 3 ≤ s.size ∧ key3 s d = k then (d : Int) else lastP s d k
def nxt (s : ByteArray) (i : Nat) : Int := if i + 3 ≤ s.size then lastP s i (key3 s i) else -1
theorem key_or (a b c : Int) (ha : 0 ≤ a ∧ a < 256) (hb : 0 ≤ b ∧ b < 256) (hc : 0 ≤ c ∧ c < 256) : bits .or .i64 (bits .or .i64 (a * 65536) (b * 256)) c = a * 65536 + b * 256 + c := by
 have h1 : bits .or .i64 (a * 65536) (b * 256) = a * 65536 + b * 256 := by
  have := bits_join .i64 62 (by decide) (fun n h0 h1 => IntWalk.i64_in _ (by omega)) 16 (a * 65536) (b * 256) (by omega) (by omega) (by omega) (by omega) (by omega) (by omega)
  omega
 rw [h1]
 have := bits_join .i64 62 (by decide) (fun n h0 h1 => IntWalk.i64_in _ (by omega)) 8 (a * 65536 + b * 256) c (by omega) (by omega) (by omega) (by omega) (by omega) (by omega)
 omega
set_option maxHeartbeats 1000000 in
theorem fkey_calls (w : World) (x : Nat) (s : ByteArray) (m v dd : Value) (i : Nat) (hb : w.heap[x]? = some (.cells #[.string s, m, v, dd] 146 (0, 0))) (hi : i + 3 ≤ s.size) (hs : s.size ≤ 1000000) :
  Calls Tryz.prog 155 #[.pointer (some ⟨x, 0, none⟩), .int .i64 (i : Int)] w fun e w' => e = .returned (.int .i64 (key3 s i)) ∧ Drawn0 w w' := by
 have c0 : w.cell? ⟨x, 0, none⟩ = some (.string s) := (blk_cell hb 0).trans (by simp)
 have e1 : ((i + 1 : Nat) : Int) = (i : Int) + 1 := by omega
 have e2 : ((i + 2 : Nat) : Int) = (i : Int) + 2 := by omega
 have hq := key_or (bt s i) (bt s ((i + 1 : Nat) : Int)) (bt s ((i + 2 : Nat) : Int)) (bt_byte _ _) (bt_byte _ _) (bt_byte _ _)
 have hk3 : key3 s i = bt s (i : Int) * 65536 + bt s ((i : Int) + 1) * 256 + bt s ((i : Int) + 2) := by unfold key3; rw [e1, e2]
 rw [e1, e2, ← hk3] at hq
 clear hk3
 have b0 := bt_byte s i
 have b1 := bt_byte s ((i : Int) + 1)
 have b2 := bt_byte s ((i : Int) + 2)
 have a0 : i < s.size := by omega
 have a1 : i + 1 < s.size := by omega
 have a2 : i + 2 < s.size := by omega
 have n0 : (s[i].toNat : Int) = bt s (i : Int) := (bt_nat s i a0).symm
 have n1 : (s[i + 1].toNat : Int) = bt s ((i : Int) + 1) := (bt_nat s (i + 1) a1).symm
 have a3 : ((i : Int) + 2).toNat < s.size := by omega
 have n2 : ((s[((i : Int) + 2).toNat]'a3).toNat : Int) = bt s ((i : Int) + 2) := bt_at s _ a3
 generalize bt s (i : Int) = y0 at *
 generalize bt s ((i : Int) + 1) = y1 at *
 generalize bt s ((i : Int) + 2) = y2 at *
 have HQ := Aside0.mk hq
 clear hb hq
 go_enter Tryz.func155, Tryz.ntmps155
 go_wp2
 go_quiet (fail)
 go_wp2
 go_returns
 rw [HQ.out]
 exact ⟨rfl, ⟨⟨_, rfl⟩⟩⟩
theorem falike_calls (w : World) (x : Nat) (s : ByteArray) (m v dd : Value) (j at_ : Nat) (hb : w.heap[x]? = some (.cells #[.string s, m, v, dd] 146 (0, 0))) (hj : j ≤ at_) (hat : at_ ≤ s.size) (hs : s.size ≤ 1000000) :
  Calls Tryz.prog 156 #[.pointer (some ⟨x, 0, none⟩), .int .i64 (j : Int), .int .i64 (at_ : Int)] w fun e w' => e = .returned (.int .i64 (alk s 258 j at_ : Nat)) ∧ Drawn0 w w' := by
 have c0 : w.cell? ⟨x, 0, none⟩ = some (.string s) := (blk_cell hb 0).trans (by simp)
 have hR : ∀ k, k < 258 → alk s (258 - k) (j + k) (at_ + k) = if at_ + k < s.size ∧ bt s ((at_ + k : Nat) : Int) = bt s ((j + k : Nat) : Int) then alk s (258 - (k + 1)) (j + (k + 1)) (at_ + (k + 1)) + 1 else 0 := fun k hk => by
  rw [show 258 - k = (258 - (k + 1)) + 1 by omega, alk]; rfl
 have HR := Aside0.mk hR
 have HC := Aside0.mk c0
 clear hb hR c0
 go_enter Tryz.func156, Tryz.ntmps156
 go_wp2_with fail
 go_loopw [7] (fun v7 wr => ∃ n : Nat, v7 = .int .i64 (n : Int) ∧ n ≤ 258 ∧ at_ + n ≤ s.size ∧ Aside0 (alk s 258 j at_ = n + alk s (258 - n) (j + n) (at_ + n) ∧ Drawn0 w wr)) (fun v7 _ => (1000 - intOf v7).toNat)
 case atStart => exact ⟨0, rfl, by omega, by omega, ⟨by simp, Drawn0.refl _⟩⟩
 case round =>
  obtain ⟨n, rfl, hn, hsz, HW⟩ := hrel
  obtain ⟨⟨nd, rfl⟩⟩ := HW.out.2
  have c0 := HC.out
  by_cases h1 : n < 258
  ·have q1 : decide ((n : Int) < 258) = true := decide_eq_true (by omega)
   have hr := HR.out n h1
   by_cases h2 : at_ + n < s.size
   ·have q2 : decide ((at_ : Int) + (n : Int) < (s.size : Int)) = true := decide_eq_true (by omega)
    have q2n : decide (at_ + n < s.size) = true := decide_eq_true h2
    have w1 : IntKind.i64.wrap ((at_ : Int) + (n : Int)) = (at_ : Int) + (n : Int) := IntWalk.i64_in _ (by omega)
    have w2 : IntKind.i64.wrap ((j : Int) + (n : Int)) = (j : Int) + (n : Int) := IntWalk.i64_in _ (by omega)
    have e1 : ((at_ + n : Nat) : Int) = (at_ : Int) + (n : Int) := by omega
    have e2 : ((j + n : Nat) : Int) = (j : Int) + (n : Int) := by omega
    have a1 : at_ + n < s.size := h2
    have a2 : j + n < s.size := by omega
    have z1 : 0 ≤ (at_ : Int) + (n : Int) ∧ (at_ : Int) + (n : Int) < (s.size : Int) := by omega
    have z2 : 0 ≤ (j : Int) + (n : Int) ∧ (j : Int) + (n : Int) < (s.size : Int) := by omega
    have z3 : ((at_ : Int) + (n : Int)).toNat = at_ + n := by omega
    have z4 : ((j : Int) + (n : Int)).toNat = j + n := by omega
    have n1 : (s[at_ + n].toNat : Int) = bt s ((at_ : Int) + (n : Int)) := by rw [← e1]; exact (bt_nat s (at_ + n) a1).symm
    have n2 : (s[j + n].toNat : Int) = bt s ((j : Int) + (n : Int)) := by rw [← e2]; exact (bt_nat s (j + n) a2).symm
    rw [e1, e2] at hr
    clear e1 e2
    generalize bt s ((at_ : Int) + (n : Int)) = y at *
    generalize bt s ((j : Int) + (n : Int)) = z at *
    by_cases h3 : y = z
    ·have q3 : (y == z) = true := beq_iff_eq.2 h3
     rw [if_pos ⟨h2, h3⟩] at hr
     have HH := Aside0.mk hr
     clear hr h3 HR
     go_wp2_with fail
     go_quiet (fail)
     go_wp2_with fail
     go_roundw
     case rel => exact ⟨n + 1, by go_num, by omega, by omega, ⟨by rw [HW.out.1, HH.out]; omega, ⟨⟨nd + nq, rfl⟩⟩⟩⟩
     case measure => simp [intOf]; omega
    ·have q3 : (y == z) = false := beq_eq_false_iff_ne.2 h3
     rw [if_neg (fun h => h3 h.2)] at hr
     have HH := Aside0.mk hr
     clear hr h3 HR
     go_wp2_with fail
     go_quiet (fail)
     go_wp2_with fail
     go_returns
     rw [HW.out.1, HH.out]
     exact ⟨rfl, ⟨⟨nd + nq, World.drewN_drewN _ _ _⟩⟩⟩
   ·have q2 : decide ((at_ : Int) + (n : Int) < (s.size : Int)) = false := decide_eq_false (by omega)
    rw [if_neg (fun h => h2 h.1)] at hr
    have HH := Aside0.mk hr
    clear hr HR
    go_wp2_with fail
    go_quiet (fail)
    go_wp2_with fail
    go_returns
    rw [HW.out.1, HH.out]
    exact ⟨rfl, ⟨⟨nd + nq, World.drewN_drewN _ _ _⟩⟩⟩
  ·have q1 : decide ((n : Int) < 258) = false := decide_eq_false (by omega)
   obtain rfl : n = 258 := by omega
   go_wp2_with fail
   go_quiet (fail)
   go_wp2_with fail
   go_returns
   rw [HW.out.1]
   exact ⟨rfl, ⟨⟨nd + nq, World.drewN_drewN _ _ _⟩⟩⟩
end Go.Proofs.YtghoifkaikddlaaGreat.Hand
namespace Go.Proofs.YtghoifkaikddlaaGreat.Hand
open Go.RowKit Go.Proofs.YtghoifkaikddlaaGreatW.PrintWords Go.Proofs.YtghoifkaikddlaaGreatW.PrintLast Go.Proofs.YtghoifkaikddlaaGreatW.PrintMore Go.Proofs.YtghoifkaikddlaaGreat.Num Go.Proofs.YtghoifkaikddlaaGreat.Bits
set_option linter.unusedVariables false
set_option linter.unusedSimpArgs false
structure FindAt (w : World) (B x : Nat) (s : ByteArray) (d : Nat) : Prop where
 open_ : ∃ (mb : Nat) (v : Value) (l : List Int), w.heap[x]? = some (.cells #[.string s, .map (some mb), v, .int .i64 (d : Int)] 146 (0, 0)) ∧ Row w B 3 .i64 v l ∧ l.length = d ∧ (∀ i, i < d → l.getD i 0 = nxt s i) ∧ MapAt w B mb d (lastP s d)
def IBm (w : World) (k : Nat) : Prop := (∃ cs fr, w.heap[k]? = some (.cells cs 3 fr)) ∨ (∃ es c, w.heap[k]? = some (.map es c))
def SF (B x : Nat) (w : World) (k : Nat) : Prop := k = x ∨ (B ≤ k ∧ IBm w k)
theorem IBm.old {w w1 : World} {S : Nat → Prop} (h : Fr w w1 S) {k : Nat} (hk : k < w.heap.size) (hu : IBm w1 k) (hn : ¬ S k) : IBm w k := by
 unfold IBm at hu ⊢
 rwa [h.block k hk hn] at hu
theorem Fr.sf {w w1 w2 : World} {B x : Nat} (h : Fr w w1 (SF B x w)) (k : Fr w1 w2 (SF B x w1)) : Fr w w2 (SF B x w) :=
 h.trans k (fun j hj hs => by
  by_cases hn : SF B x w j
  ·exact hn
  ·rcases hs with h1 | ⟨h1, h2⟩
   ·exact .inl h1
   ·exact .inr ⟨h1, IBm.old h hj h2 hn⟩)
theorem Fr.sfX {w w1 : World} {B x : Nat} (h : Fr w w1 (· = x)) : Fr w w1 (SF B x w) := h.mono (fun _ _ h => .inl h)
theorem Fr.sfMap {w w1 : World} {B x mb n : Nat} {F : Int → Int} (h : MapAt w B mb n F) (hg : w.grownBy w1 (some mb)) : Fr w w1 (SF B x w) :=
 (Fr.of_grown hg).mono (fun k _ hk => .inr ⟨by injection hk with hk; rw [← hk]; exact h.low, by injection hk with hk; rw [← hk]; exact .inr h.blk⟩)
theorem FindAt.drawn {w w1 : World} {B x : Nat} {s : ByteArray} {d : Nat} (h : FindAt w B x s d) (hd : Drawn0 w w1) : FindAt w1 B x s d := by
 obtain ⟨⟨n, rfl⟩⟩ := hd
 obtain ⟨mb, v, l, h1, h2, h3, h4, h5⟩ := h.open_
 exact ⟨mb, v, l, h1, h2, h3, h4, ⟨h5.low, h5.open_⟩⟩
theorem key3_range (s : ByteArray) (i : Nat) : 0 ≤ key3 s i ∧ key3 s i < 16777216 := by
 have h0 := bt_byte s i
 have h1 := bt_byte s ((i + 1 : Nat) : Int)
 have h2 := bt_byte s ((i + 2 : Nat) : Int)
 unfold key3; omega
theorem i64_wf (k : Int) (h : -9223372036854775808 ≤ k ∧ k ≤ 9223372036854775807) : (Lit.int .i64 k).wf = true := by
 simpa [Lit.wf, IntKind.min, IntKind.max, IntKind.bits, IntKind.signed] using h
theorem lastP_lt (s : ByteArray) : ∀ d k, lastP s d k < d ∧ -1 ≤ lastP s d k
 | 0, k => by rw [lastP]; omega
 | d + 1, k => by
  rw [lastP]
  have := lastP_lt s d k
  split <;> omega
theorem Row.own {W : World} {B : Nat} {e : TypeId} {k : IntKind} {v : Value} {xs : List Int} (h : Row W B e k v xs) (hx : 0 < xs.length) : ∃ g cap, v = .slice (some ⟨g, 0, none⟩) xs.length cap := by
 obtain ⟨_, h | ⟨g, cap, cur, h1, _⟩⟩ := h
 ·omega
 ·exact ⟨g, cap, h1⟩
theorem FindAt.step {W : World} {B x : Nat} {s : ByteArray} {d mb : Nat} {v : Value} {l : List Int} (hb : W.heap[x]? = some (.cells #[.string s, .map (some mb), v, .int .i64 (d : Int)] 146 (0, 0))) (hr : Row W B 3 .i64 v l) (hl : l.length = d + 1)
  (hnx : ∀ i, i < d + 1 → l.getD i 0 = nxt s i) (hm : MapAt W B mb (d + 1) (lastP s (d + 1))) : FindAt (W.setCell ⟨x, 3, none⟩ (.int .i64 ((d : Int) + 1))) B x s (d + 1) := by
 refine ⟨mb, v, l, (blk_set hb 3 _).trans (by simp), hr.set hb (by decide) 3 _, hl, hnx, ?_⟩
 exact hm.fr ((Fr.refl W (· = x)).set1 3 _) (hm.ne hb)
theorem getD_snoc {l : List Int} {d : Nat} {y : Int} {f : Nat → Int} (hl : l.length = d) (h : ∀ i, i < d → l.getD i 0 = f i) (hy : y = f d) : ∀ i, i < d + 1 → (l ++ [y]).getD i 0 = f i := by
 intro i hi
 by_cases hd : i < d
 ·rw [← h i hd, List.getD_eq_getElem?_getD, List.getD_eq_getElem?_getD, List.getElem?_append_left (by omega)]
 ·obtain rfl : i = d := by omega
  rw [List.getD_eq_getElem?_getD, List.getElem?_append_right (by omega), hl, Nat.sub_self]
  exact hy
theorem set_snoc {l : List Int} {d : Nat} {y z : Int} (hl : l.length = d) : (l ++ [y]).set d z = l ++ [z] := by
 subst hl
 rw [List.set_append_right _ _ (Nat.le_refl _), Nat.sub_self]
 rfl
theorem lastP_skip (s : ByteArray) (d : Nat) (h : ¬ d + 3 ≤ s.size) : lastP s (d + 1) = lastP s d := by
 funext k
 rw [lastP, if_neg (fun hh => h hh.1)]
theorem lastP_put (s : ByteArray) (d : Nat) (h : d + 3 ≤ s.size) : (fun x => if x = key3 s d then (d : Int) else lastP s d x) = lastP s (d + 1) := by
 funext k
 rw [lastP]
 by_cases hk : k = key3 s d
 ·rw [if_pos hk, if_pos ⟨h, hk.symm⟩]
 ·rw [if_neg hk, if_neg (fun hh => hk hh.2.symm)]
set_option maxRecDepth 100000 in
set_option maxHeartbeats 4000000 in
theorem fpass_calls (w : World) (B x : Nat) (s : ByteArray) (d to_ : Nat) (h : FindAt w B x s d) (hd : d ≤ to_) (hto : to_ ≤ s.size) (hs : s.size ≤ 100000) (hB : B ≤ w.heap.size) :
  Calls Tryz.prog 154 #[.pointer (some ⟨x, 0, none⟩), .int .i64 (to_ : Int)] w fun e w' => e = .returned (.tuple #[]) ∧ FindAt w' B x s to_ ∧ Fr w w' (SF B x w) := by
 have HH := Aside0.mk h
 clear h
 go_enter Tryz.func154, Tryz.ntmps154
 go_wp2_with fail
 go_loopg [] (to_ + 1) (fun kq wr => ∃ d1 : Nat, d ≤ d1 ∧ d1 ≤ to_ ∧ to_ < d1 + kq ∧ Aside0 (FindAt wr B x s d1 ∧ Fr w wr (SF B x w)))
 case atStart => exact ⟨d, by omega, hd, by omega, ⟨HH.out, Fr.refl _ _⟩⟩
 case round =>
  obtain ⟨d1, hd0, hd1, hk, HW⟩ := hrel
  obtain ⟨mb, v, l, hb, hr, hl, hnx, hm⟩ := HW.out.1.open_
  obtain ⟨A1, n1, k1, rfl, hn1⟩ := hr.shape
  have c2 : wr.cell? ⟨x, 2, none⟩ = some (.slice A1 n1 k1) := (blk_cell hb 2).trans (by simp)
  have c3 : wr.cell? ⟨x, 3, none⟩ = some (.int .i64 (d1 : Int)) := (blk_cell hb 3).trans (by simp)
  have HX : Aside0 (_ ∧ _ ∧ _) := ⟨hl, hnx, hm⟩
  have HB := Aside0.mk (Nat.le_trans hB HW.out.2.size)
  by_cases hlt : d1 < to_
  ·have q1 : decide ((d1 : Int) < (to_ : Int)) = true := decide_eq_true (by omega)
   have q1n : decide (d1 < to_) = true := decide_eq_true hlt
   have HN : Aside0 (_ ∧ _) := ⟨hb, hr⟩
   clear hb hr hl hnx hm hn1
   go_wp2_with (at_builtin; refine app_wp B rfl _ _ 74 3 .i64 8 rfl Tryz.underlying74 infoI64 (.slice A1 n1 k1) l [-1] rfl ⟨wr.heap.size, 0, none⟩ 1 1 rfl rfl (news_lit wr .i64 _ _ _ (by rfl)) (HN.out.2.alloc _) (by have := HB.out; simp; omega) (by have := HX.out.1; unfold maxLen; simp; omega) (by have := HX.out.1; simp; omega) ?_; intro v3 w3 hap; obtain ⟨A3, n3, k3, hv3, hn3⟩ := hap.row.shape; subst hv3; have hb3 := hap.blk1 HN.out.2 HN.out.1 (by decide); have f3 := blk_frozen hb3 2; have d3 : w3.cell? ⟨x, 2, none⟩ = some (.slice A1 n1 k1) := (blk_cell hb3 2).trans (by simp))
   have hb4 : (w3.setCell ⟨x, 2, none⟩ (.slice A3 n3 k3)).heap[x]? = some (.cells #[.string s, .map (some mb), .slice A3 n3 k3, .int .i64 (d1 : Int)] 146 (0, 0)) := (blk_set hb3 2 _).trans (by simp)
   have hr4 : Row (w3.setCell ⟨x, 2, none⟩ (.slice A3 n3 k3)) B 3 .i64 (.slice A3 n3 k3) (l ++ [-1]) := hap.row.set hb3 (by decide) 2 _
   have hf4 : Fr wr (w3.setCell ⟨x, 2, none⟩ (.slice A3 n3 k3)) (fun k => k = x ∨ (Value.slice A1 n1 k1).ownBlock = some k) :=
    (((Fr.refl wr _).alloc _).trans (Fr.of_grown hap.grown) (fun k _ hk => .inr hk)).trans ((Fr.refl w3 (· = x)).set1 2 _) (fun k _ hk => .inl hk)
   have hm4 : MapAt (w3.setCell ⟨x, 2, none⟩ (.slice A3 n3 k3)) B mb d1 (lastP s d1) := HX.out.2.2.fr hf4 (by
    rintro (h | h)
    ·exact HX.out.2.2.ne HN.out.1 h
    ·obtain ⟨cs, hc⟩ := HN.out.2.blk _ h
     exact HX.out.2.2.ne hc rfl)
   have hs4 : Fr wr (w3.setCell ⟨x, 2, none⟩ (.slice A3 n3 k3)) (SF B x wr) := hf4.mono (fun k _ hk => by
    rcases hk with h | h
    ·exact .inl h
    ·obtain ⟨cs, hc⟩ := HN.out.2.blk _ h
     exact .inr ⟨(HN.out.2.lt k h).1, .inl ⟨cs, (0, 0), hc⟩⟩)
   have hln : n3 = d1 + 1 := by have := hn3.out; rw [List.length_append, HX.out.1] at this; exact this
   generalize w3.setCell ⟨x, 2, none⟩ (.slice A3 n3 k3) = W4 at *
   have HN4 : Aside0 (_ ∧ _ ∧ _ ∧ _ ∧ _) := ⟨hb4, hr4, hm4, HW.out.2.sf hs4, (rfl : True = True)⟩
   clear c2 c3 hap hb3 f3 d3 hf4 hs4 hm4 hr4 HN hn3 w3
   have c0 : W4.cell? ⟨x, 0, none⟩ = some (.string s) := (blk_cell hb4 0).trans (by simp)
   have c1 : W4.cell? ⟨x, 1, none⟩ = some (.map (some mb)) := (blk_cell hb4 1).trans (by simp)
   have c2 : W4.cell? ⟨x, 2, none⟩ = some (.slice A3 n3 k3) := (blk_cell hb4 2).trans (by simp)
   have c3 : W4.cell? ⟨x, 3, none⟩ = some (.int .i64 (d1 : Int)) := (blk_cell hb4 3).trans (by simp)
   have f3 := blk_frozen hb4 3
   have e4 : ((d1 + 1 : Nat) : Int) = (d1 : Int) + 1 := by omega
   clear hb4
   by_cases h3 : d1 + 3 ≤ s.size
   ·have q3 : decide ((s.size : Int) < (d1 : Int) + 3) = false := decide_eq_false (by omega)
    go_quiet (fail)
    go_wp2_with fail
    have HK := fkey_calls (W4.drewN nq) x s (.map (some mb)) (.slice A3 n3 k3) (.int .i64 (d1 : Int)) d1 HN4.out.1 h3 (by omega)
    refine HK.mono ?_
    rintro e w5 ⟨rfl, ⟨⟨n5, rfl⟩⟩⟩
    clear HK
    have hlk := (HN4.out.2.2.1.drawn (⟨⟨nq + n5, rfl⟩⟩ : Drawn0 W4 (W4.drewN (nq + n5)))).look (key3 s d1) (i64_wf _ (by have := key3_range s d1; omega))
    have hlr := lastP_lt s d1 (key3 s d1)
    have hput := fun (W : World) (hm : MapAt W B mb d1 (lastP s d1)) => hm.put (by unfold maxLen; omega) (key3 s d1) (d1 : Int) (i64_wf _ (by have := key3_range s d1; omega)) (i64_wf _ (by omega)) (by omega)
    rw [lastP_put s d1 h3] at hput
    rw [World.drewN_drewN]
    generalize nq + n5 = N at *
    have HJN : Aside0 (nxt s d1 = lastP s d1 (key3 s d1)) := ⟨by unfold nxt; rw [if_pos h3]⟩
    obtain ⟨ky, hky⟩ : ∃ ky, ky = key3 s d1 := ⟨_, rfl⟩
    obtain ⟨J, hJ⟩ : ∃ J, J = lastP s d1 ky := ⟨_, rfl⟩
    rw [← hky] at hlk hlr hput HJN
    rw [← hJ] at hlk hlr HJN
    rw [← hky]
    clear hky hJ
    have HP := Aside0.mk hput
    clear hput
    by_cases hj : J < 0
    ·rw [if_pos hj, decide_eq_false (show ¬ 0 ≤ J by omega)] at hlk
     have HM4 : Aside0 (∀ n, ∃ w', _ ∧ _ ∧ _) := ⟨fun n => HP.out (W4.drewN n) (HN4.out.2.2.1.drawn ⟨⟨n, rfl⟩⟩)⟩
     go_wp2_with fail
     obtain ⟨W7, hup, hm7, hg7⟩ := HM4.out (N + 1)
     go_region
     have hb7 : W7.heap[x]? = some (.cells #[.string s, .map (some mb), .slice A3 n3 k3, .int .i64 (d1 : Int)] 146 (0, 0)) :=
      blk_grown (blk_drewN HN4.out.1 (N + 1)) hg7 (fun he => by injection he with he; exact HN4.out.2.2.1.ne HN4.out.1 he.symm)
     have hr7 : Row W7 B 3 .i64 (.slice A3 n3 k3) (l ++ [-1]) := HN4.out.2.1.fr (Fr.of_drewN (Fr.of_grown hg7)) (fun k hk he => by
      injection he with he
      obtain ⟨cs, hc⟩ := HN4.out.2.1.blk k hk
      exact HN4.out.2.2.1.ne hc he)
     have c7 : W7.cell? ⟨x, 3, none⟩ = some (.int .i64 (d1 : Int)) := (blk_cell hb7 3).trans (by simp)
     have f7 := blk_frozen hb7 3
     have HF7 : Aside0 (_ ∧ _) := ⟨FindAt.step hb7 hr7 (by rw [List.length_append, HX.out.1]; rfl) (getD_snoc HX.out.1 HX.out.2.1 (by rw [HJN.out]; omega)) hm7,
      (HN4.out.2.2.2.1.sf ((Fr.refl W4 _).drewN (N + 1))).sf ((Fr.sfMap (HN4.out.2.2.1.drawn (⟨⟨_, rfl⟩⟩ : Drawn0 W4 (W4.drewN (N + 1)))) hg7).sf (((Fr.refl W7 (· = x)).set1 3 (.int .i64 ((d1 : Int) + 1))).sfX))⟩
     clear c0 c1 c2 c3 f3 HN4 HP HM4 hup hm7 hg7 hb7 hr7 hlk
     go_wp2_with fail
     go_roundg (gk - 1)
     case measure => omega
     case rel => exact ⟨d1 + 1, by omega, by omega, by omega, ⟨HF7.out⟩⟩
    ·rw [if_neg hj, decide_eq_true (show 0 ≤ J by omega)] at hlk
     obtain ⟨g, k3', hsl⟩ := HN4.out.2.1.own (by simp)
     rw [List.length_append, HX.out.1] at hsl
     injection hsl with hA hn hk3
     subst hA hk3
     have hat := HN4.out.2.1.at_ d1 (by rw [List.length_append, HX.out.1]; simp)
     have hgx : g ≠ x := HN4.out.2.1.ne_blk HN4.out.1 (by decide) g rfl
     have cg : ∃ v, W4.cell? ⟨g, d1, none⟩ = some v := ⟨_, hat.1⟩
     obtain ⟨vg, cg⟩ := cg
     have fg := hat.2
     clear hat
     go_wp2_with fail
     go_region
     have hF5 : Fr W4 ((W4.drewN (N + 1)).setCell ⟨g, d1, none⟩ (.int .i64 J)) (· = g) := ((Fr.refl W4 _).drewN (N + 1)).set1 d1 (.int .i64 J)
     have hb5 := hF5.blk HN4.out.1 (fun h => hgx h.symm)
     have hr5 : Row ((W4.drewN (N + 1)).setCell ⟨g, d1, none⟩ (.int .i64 J)) B 3 .i64 (.slice (some ⟨g, 0, none⟩) n3 k3) (l ++ [J]) := by
      rw [← set_snoc (y := -1) HX.out.1]
      exact Row.store (show Row (W4.drewN (N + 1)) B 3 .i64 (.slice (some ⟨g, 0, none⟩) n3 k3) (l ++ [-1]) from HN4.out.2.1) d1 J
     have hm5 := HN4.out.2.2.1.fr hF5 (fun h => by
      obtain ⟨cs, hc⟩ := HN4.out.2.1.blk g rfl
      exact HN4.out.2.2.1.ne hc h)
     have hs5 : Fr W4 ((W4.drewN (N + 1)).setCell ⟨g, d1, none⟩ (.int .i64 J)) (SF B x W4) := hF5.mono (fun k _ hk => by
      subst hk
      obtain ⟨cs, hc⟩ := HN4.out.2.1.blk k rfl
      exact .inr ⟨(HN4.out.2.1.lt k rfl).1, .inl ⟨cs, (0, 0), hc⟩⟩)
     have hs6 := HN4.out.2.2.2.1.sf hs5
     generalize (W4.drewN (N + 1)).setCell ⟨g, d1, none⟩ (.int .i64 J) = W5 at *
     have HN5 : Aside0 (_ ∧ _ ∧ _ ∧ _) := ⟨hb5, hr5, hm5, hs6⟩
     clear c0 c1 c2 c3 f3 HN4 hlk hF5 hr5 hm5 hs5 hs6 cg fg
     have c1 : W5.cell? ⟨x, 1, none⟩ = some (.map (some mb)) := (blk_cell hb5 1).trans (by simp)
     have c3 : W5.cell? ⟨x, 3, none⟩ = some (.int .i64 (d1 : Int)) := (blk_cell hb5 3).trans (by simp)
     obtain ⟨W7, hup, hm7, hg7⟩ := HP.out W5.drew (HN5.out.2.2.1.drawn ⟨⟨1, rfl⟩⟩)
     clear hb5 HP
     go_wp2_with fail
     go_region
     have hb7 : W7.heap[x]? = some (.cells #[.string s, .map (some mb), .slice (some ⟨g, 0, none⟩) n3 k3, .int .i64 (d1 : Int)] 146 (0, 0)) :=
      blk_grown (blk_drew HN5.out.1) hg7 (fun he => by injection he with he; exact HN5.out.2.2.1.ne HN5.out.1 he.symm)
     have hr7 : Row W7 B 3 .i64 (.slice (some ⟨g, 0, none⟩) n3 k3) (l ++ [J]) := HN5.out.2.1.fr (Fr.of_grown hg7).of_drew (fun k hk he => by
      injection he with he
      obtain ⟨cs, hc⟩ := HN5.out.2.1.blk k hk
      exact HN5.out.2.2.1.ne hc he)
     have c7 : W7.cell? ⟨x, 3, none⟩ = some (.int .i64 (d1 : Int)) := (blk_cell hb7 3).trans (by simp)
     have f7 := blk_frozen hb7 3
     have HF7 : Aside0 (_ ∧ _) := ⟨FindAt.step hb7 hr7 (by rw [List.length_append, HX.out.1]; rfl) (getD_snoc HX.out.1 HX.out.2.1 HJN.out.symm) hm7,
      (HN5.out.2.2.2.sf ((Fr.refl W5 _).drewN 1)).sf ((Fr.sfMap (HN5.out.2.2.1.drawn (⟨⟨1, rfl⟩⟩ : Drawn0 W5 W5.drew)) hg7).sf (((Fr.refl W7 (· = x)).set1 3 (.int .i64 ((d1 : Int) + 1))).sfX))⟩
     clear c1 c3 HN5 hup hm7 hg7 hb7 hr7
     go_wp2_with fail
     go_roundg (gk - 1)
     case measure => omega
     case rel => exact ⟨d1 + 1, by omega, by omega, by omega, ⟨HF7.out⟩⟩
   ·have q3 : decide ((s.size : Int) < (d1 : Int) + 3) = true := decide_eq_true (by omega)
    have HF5 : Aside0 (_ ∧ _) := ⟨FindAt.step HN4.out.1 HN4.out.2.1 (by rw [List.length_append, HX.out.1]; rfl) (getD_snoc HX.out.1 HX.out.2.1 (by unfold nxt; rw [if_neg h3])) (by rw [lastP_skip s d1 h3]; exact HN4.out.2.2.1.mono (Nat.le_succ _)),
     HN4.out.2.2.2.1.sf (((Fr.refl W4 (· = x)).set1 3 (.int .i64 ((d1 : Int) + 1))).sfX)⟩
    clear HN4
    go_quiet (fail)
    go_wp2_with fail
    go_roundg (gk - 1)
    case measure => omega
    case rel => exact ⟨d1 + 1, by omega, by omega, by omega, ⟨HF5.out.1.drawn ⟨⟨nq, rfl⟩⟩, HF5.out.2.drewN nq⟩⟩
  ·have q1 : decide ((d1 : Int) < (to_ : Int)) = false := decide_eq_false (by omega)
   have q1n : decide (d1 < to_) = false := decide_eq_false hlt
   obtain rfl : d1 = to_ := by omega
   go_wp2_with fail
   go_returns
   exact ⟨rfl, HW.out⟩
end Go.Proofs.YtghoifkaikddlaaGreat.Hand
namespace Go.Proofs.YtghoifkaikddlaaGreat.Hand
open Go.RowKit Go.Proofs.YtghoifkaikddlaaGreatW.PrintWords Go.Proofs.YtghoifkaikddlaaGreatW.PrintLast Go.Proofs.YtghoifkaikddlaaGreatW.PrintMore Go.Proofs.YtghoifkaikddlaaGreat.Num Go.Proofs.YtghoifkaikddlaaGreat.Bits
set_option linter.unusedVariables false
set_option linter.unusedSimpArgs false
theorem goL_skip (s : ByteArray) (at_ : Nat) (l b : Nat) : ∀ jj, jj ≤ at_ → at_ + 3 ≤ s.size → goL s at_ jj l b = goL s at_ (lastP s jj (key3 s at_) + 1).toNat l b
 | 0, _, _ => rfl
 | d + 1, h1, h2 => by
  rw [lastP]
  by_cases hk : key3 s d = key3 s at_
  ·rw [if_pos ⟨by omega, hk⟩, show ((d : Int) + 1).toNat = d + 1 by omega]
  ·rw [if_neg (fun h => hk h.2), ← goL_skip s at_ l b d (by omega) h2, goL, if_neg hk]
theorem goL_hit (s : ByteArray) (at_ : Nat) (l b j : Nat) (hk : key3 s j = key3 s at_) : goL s at_ (j + 1) l b = if 32768 < at_ - j then (l, b) else if alk s 258 j at_ ≤ l then goL s at_ j l b else if alk s 258 j at_ = 258 then (alk s 258 j at_, at_ - j) else goL s at_ j (alk s 258 j at_) (at_ - j) := by
 rw [goL, if_pos hk]
theorem lastP_hit (s : ByteArray) (k : Int) : ∀ d, 0 ≤ lastP s d k → (lastP s d k).toNat < d ∧ (lastP s d k).toNat + 3 ≤ s.size ∧ key3 s (lastP s d k).toNat = k
 | 0, h => by rw [lastP] at h; omega
 | d + 1, h => by
  rw [lastP] at h ⊢
  split
  ·rename_i hc
   rw [Int.toNat_natCast]
   exact ⟨by omega, hc.1, hc.2⟩
  ·rename_i hc
   rw [if_neg hc] at h
   have := lastP_hit s k d h
   exact ⟨by omega, this.2⟩
set_option maxRecDepth 100000 in
set_option maxHeartbeats 4000000 in
theorem ffind_calls (w : World) (B x : Nat) (s : ByteArray) (d at_ : Nat) (h : FindAt w B x s d) (hd : d ≤ at_) (hat : at_ ≤ s.size) (hs : s.size ≤ 100000) (hB : B ≤ w.heap.size) :
  Calls Tryz.prog 126 #[.pointer (some ⟨x, 0, none⟩), .int .i64 (at_ : Int)] w fun e w' => e = .returned (.tuple #[.int .i64 ((findF s at_).1 : Int), .int .i64 ((findF s at_).2 : Int)]) ∧ FindAt w' B x s at_ ∧ Fr w w' (SF B x w) := by
 have HP := Aside0.mk (fpass_calls w B x s d at_ h hd hat hs hB)
 clear h
 go_enter Tryz.func126, Tryz.ntmps126
 go_wp2_with fail
 refine wp_scope_straight ?_
 go_wp2_with fail
 refine HP.out.mono ?_
 rintro e w1 ⟨rfl, h1, hf1⟩
 have HF : Aside0 (_ ∧ _) := ⟨h1, hf1⟩
 clear HP
 obtain ⟨mb, v, l, hb, hr, hl, hnx, hm⟩ := h1.open_
 clear h1 hf1
 obtain ⟨A1, k1, rfl, hrd⟩ := hr.reads
 have c0 : w1.cell? ⟨x, 0, none⟩ = some (.string s) := (blk_cell hb 0).trans (by simp)
 have c1 : w1.cell? ⟨x, 1, none⟩ = some (.map (some mb)) := (blk_cell hb 1).trans (by simp)
 have c2 : w1.cell? ⟨x, 2, none⟩ = some (.slice A1 l.length k1) := (blk_cell hb 2).trans (by simp)
 have HX : Aside0 (_ ∧ _ ∧ _ ∧ _ ∧ _) := ⟨hb, hl, hnx, hm, hrd⟩
 clear hb hr hnx hm hrd
 by_cases h3 : s.size < at_ + 3
 ·have q3 : decide ((s.size : Int) < (at_ : Int) + 3) = true := decide_eq_true (by omega)
  have q3n : decide (s.size < at_ + 3) = true := decide_eq_true h3
  go_wp2_with fail
  repeat (rw [Exit.noGoto_ret])
  go_returns
  have e : findF s at_ = (0, 0) := by unfold findF; rw [if_pos h3]
  rw [e]
  exact ⟨rfl, HF.out⟩
 ·have q3 : decide ((s.size : Int) < (at_ : Int) + 3) = false := decide_eq_false (by omega)
  have q3n : decide (s.size < at_ + 3) = false := decide_eq_false h3
  have hlr := lastP_lt s at_ (key3 s at_)
  have hlh := lastP_hit s (key3 s at_) at_
  have HS0 := Aside0.mk (goL_skip s at_ 0 0 at_ (Nat.le_refl _) (by omega))
  have HE : Aside0 (findF s at_ = goL s at_ at_ 0 0) := ⟨by unfold findF; rw [if_neg h3]⟩
  have hlk : ∀ n, (Instr.lookup 144 (.map (some mb)) (.int .i64 (key3 s at_)) true).run Tryz.prog (w1.drewN n) = .ok (.tuple #[.int .i64 (if lastP s at_ (key3 s at_) < 0 then 0 else lastP s at_ (key3 s at_)), .bool (decide (0 ≤ lastP s at_ (key3 s at_)))]) (w1.drewN n) :=
   fun n => (HX.out.2.2.2.1.drawn ⟨⟨n, rfl⟩⟩).look _ (i64_wf _ (by have := key3_range s at_; omega))
  have HK : Aside0 (∀ n, Calls Tryz.prog 155 #[.pointer (some ⟨x, 0, none⟩), .int .i64 (at_ : Int)] (w1.drewN n) fun e w' => e = .returned (.int .i64 (key3 s at_)) ∧ ∃ m, w' = w1.drewN m) :=
   ⟨fun n => (fkey_calls (w1.drewN n) x s _ _ _ at_ HX.out.1 (by omega) (by omega)).mono (by rintro e w2 ⟨rfl, ⟨⟨m, rfl⟩⟩⟩; exact ⟨rfl, n + m, World.drewN_drewN _ _ _⟩)⟩
  obtain ⟨ky, hky⟩ : ∃ ky, ky = key3 s at_ := ⟨_, rfl⟩
  obtain ⟨J, hJ⟩ : ∃ J, J = lastP s at_ ky := ⟨_, rfl⟩
  rw [← hky] at hlk hlr HK hlh HS0
  rw [← hJ] at hlk hlr hlh HS0
  have HKY : Aside0 (_ ∧ _ ∧ _) := ⟨hky, hJ, hlh⟩
  clear hky hJ hlh
  by_cases hj : J < 0
  ·simp only [if_pos hj, decide_eq_false (show ¬ 0 ≤ J by omega)] at hlk
   go_wp2_with fail
   go_quiet (refine HK.out _)
   go_wp2_with fail
   repeat (rw [Exit.noGoto_ret])
   go_returns
   have e : findF s at_ = (0, 0) := by rw [HE.out, HS0.out, show (J + 1).toNat = 0 by omega, goL]
   rw [e]
   exact ⟨rfl, HF.out.1.drawn ⟨⟨nq, rfl⟩⟩, HF.out.2.drewN nq⟩
  ·simp only [if_neg hj, decide_eq_true (show 0 ≤ J by omega)] at hlk
   go_wp2_with fail
   go_quiet (refine HK.out _)
   clear hlk HK c1
   have HKK : Aside0 (0 ≤ J → J.toNat + 3 ≤ s.size ∧ key3 s J.toNat = key3 s at_) := ⟨fun h => by
    have := HKY.out.2.2 h
    exact ⟨this.2.1, this.2.2.trans HKY.out.1⟩⟩
   clear HKY
   go_wp2_with fail
   refine wp_label ?_
   go_wp2_with fail
   go_loopw [6, 8, 9] (fun v6 v8 v9 wr => ∃ (J2 : Int) (ln bk : Nat), v6 = .int .i64 J2 ∧ v8 = .int .i64 (ln : Int) ∧ v9 = .int .i64 (bk : Int) ∧ -1 ≤ J2 ∧ J2 < at_ ∧ ln ≤ 258 ∧ Aside0 (goL s at_ at_ 0 0 = goL s at_ (J2 + 1).toNat ln bk ∧ (0 ≤ J2 → J2.toNat + 3 ≤ s.size ∧ key3 s J2.toNat = key3 s at_) ∧ Drawn0 w1 wr)) (fun v6 _ _ _ => (intOf v6 + 1).toNat)
   case atStart => exact ⟨J, 0, 0, rfl, rfl, rfl, hlr.2, hlr.1, by omega, ⟨HS0.out, HKK.out, ⟨⟨nq, rfl⟩⟩⟩⟩
   case round =>
    clear HKK HS0 hlr hj
    obtain ⟨J2, ln, bk, rfl, rfl, rfl, hj1, hj2, hln, HR⟩ := hrel
    obtain ⟨⟨nd, rfl⟩⟩ := HR.out.2.2
    by_cases hjn : 0 ≤ J2
    ·obtain ⟨j, rfl⟩ : ∃ j : Nat, J2 = (j : Int) := ⟨J2.toNat, by omega⟩
     have qg : decide (0 ≤ (j : Int)) = true := decide_eq_true hjn
     have hkj := HR.out.2.1 hjn
     rw [Int.toNat_natCast] at hkj
     have hgo := HR.out.1
     rw [show ((j : Int) + 1).toNat = j + 1 by omega, goL_hit s at_ ln bk j hkj.2] at hgo
     by_cases hfar : 32768 < at_ - j
     ·have qf : decide ((at_ : Int) - (j : Int) ≤ 32768) = false := decide_eq_false (by omega)
      rw [if_pos hfar] at hgo
      have HG := Aside0.mk hgo
      clear hgo hkj HR
      go_wp2_with fail
      repeat (rw [Exit.noGoto_ret])
      go_returns
      rw [HE.out, HG.out]
      exact ⟨rfl, HF.out.1.drawn ⟨⟨_, rfl⟩⟩, HF.out.2.drewN _⟩
     ·have qf : decide ((at_ : Int) - (j : Int) ≤ 32768) = true := decide_eq_true (by omega)
      rw [if_neg hfar] at hgo
      have HA := Aside0.mk (falike_calls (w1.drewN nd) x s _ _ _ j at_ HX.out.1 (by omega) hat (by omega))
      obtain ⟨n, hn⟩ : ∃ n, n = alk s 258 j at_ := ⟨_, rfl⟩
      have hn258 : n ≤ 258 := by rw [hn]; exact alk_le _ _ _ _
      rw [← hn] at hgo HA
      have hnx : l.getD j 0 = lastP s j (key3 s at_) := by rw [HX.out.2.2.1 j (by omega)]; unfold nxt; rw [if_pos hkj.1, hkj.2]
      have hlt := lastP_lt s j (key3 s at_)
      have hhit := lastP_hit s (key3 s at_) j
      have HSK := fun l2 b2 => goL_skip s at_ l2 b2 j (by omega) (by omega)
      have hcell : ∃ ad, A1 = some ad ∧ w1.cell? (ad.add j) = some (.int .i64 (l.getD j 0)) := by
       obtain ⟨ad, had, hc⟩ := ReadsInt.at_ HX.out.2.2.2.2 (j : Int) (by omega) (by omega)
       rw [Int.toNat_natCast, rd, Int.toNat_natCast] at hc
       exact ⟨ad, had, hc⟩
      obtain ⟨ad, rfl, hcell⟩ := hcell
      rw [hnx] at hcell
      clear hnx hkj
      obtain ⟨J3, hJ3⟩ : ∃ J3, J3 = lastP s j (key3 s at_) := ⟨_, rfl⟩
      rw [← hJ3] at hcell hlt hhit HSK
      clear hJ3
      have HG : Aside0 (_ ∧ _ ∧ _) := ⟨hgo, hhit, HSK⟩
      have hjl : j < l.length := by omega
      clear hgo hhit HSK HR hn
      go_wp2_with fail
      refine HA.out.mono ?_
      rintro e w2 ⟨rfl, ⟨⟨n2, rfl⟩⟩⟩
      clear HA
      rw [World.drewN_drewN]
      generalize nd + n2 = N
      by_cases hle : n ≤ ln
      ·have qn : decide ((n : Int) ≤ (ln : Int)) = true := decide_eq_true (by omega)
       have qnn : decide (n ≤ ln) = true := decide_eq_true hle
       have HG2 : Aside0 (_ ∧ _) := ⟨by have := HG.out.1; rw [if_pos hle, HG.out.2.2] at this; exact this, fun h => (HG.out.2.1 h).2⟩
       clear HG
       go_wp2_with fail
       go_roundw
       case rel => exact ⟨J3, ln, bk, rfl, rfl, rfl, hlt.2, by omega, hln, ⟨HG2.out.1, HG2.out.2, ⟨⟨N, rfl⟩⟩⟩⟩
       case measure => simp [intOf]; omega
      ·have qn : decide ((n : Int) ≤ (ln : Int)) = false := decide_eq_false (by omega)
       have qnn : decide (n ≤ ln) = false := decide_eq_false hle
       have ecast : ((at_ - j : Nat) : Int) = (at_ : Int) - (j : Int) := by omega
       by_cases h258 : n = 258
       ·have qb : ((n : Int) == 258) = true := by rw [beq_iff_eq]; omega
        have HG2 : Aside0 (_) := ⟨by have := HG.out.1; rw [if_neg hle, if_pos h258] at this; exact this⟩
        clear HG
        go_wp2_with fail
        repeat (rw [Exit.noGoto_ret])
        go_returns
        subst h258
        rw [HE.out, HG2.out, ecast]
        exact ⟨rfl, HF.out.1.drawn ⟨⟨_, rfl⟩⟩, HF.out.2.drewN _⟩
       ·have qb : ((n : Int) == 258) = false := by rw [beq_eq_false_iff_ne]; omega
        have HG2 : Aside0 (_ ∧ _) := ⟨by have := HG.out.1; rw [if_neg hle, if_neg h258, HG.out.2.2] at this; exact this, fun h => (HG.out.2.1 h).2⟩
        clear HG
        go_wp2_with fail
        go_roundw
        case rel => exact ⟨J3, n, at_ - j, rfl, rfl, by rw [ecast], hlt.2, by omega, hn258, ⟨HG2.out.1, HG2.out.2, ⟨⟨N, rfl⟩⟩⟩⟩
        case measure => simp [intOf]; omega
    ·have qg : decide (0 ≤ J2) = false := decide_eq_false hjn
     have hgo := HR.out.1
     rw [show (J2 + 1).toNat = 0 by omega, goL] at hgo
     have HG := Aside0.mk hgo
     clear hgo HR
     go_wp2_with fail
     repeat (rw [Exit.noGoto_ret])
     go_returns
     rw [HE.out, HG.out]
     exact ⟨rfl, HF.out.1.drawn ⟨⟨_, rfl⟩⟩, HF.out.2.drewN _⟩
end Go.Proofs.YtghoifkaikddlaaGreat.Hand
