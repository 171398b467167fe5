/- Squeeze: the document's Stored; walked by hand. Squeeze in plain numbers: how long what is told is; the page's examples. Squeeze in plain numbers: the document's piece is the finder's; what is bits is held. -/
import Derived.Test.YtbgdadehjnifeaaHand11l
namespace Go.Proofs.Ytbgdadehjnifeaa.Hand
open Go.RowKit Go.Proofs.YtbgdadehjnifeaaW.PrintWords Go.Proofs.YtbgdadehjnifeaaW.PrintLast Go.Proofs.YtbgdadehjnifeaaW.PrintMore Go.Proofs.Ytbgdadehjnifeaa.Num Go.Proofs.Ytbgdadehjnifeaa.Bits
set_option linter.unusedVariables false
set_option linter.unusedSimpArgs false
theorem s_app_str_wp {P : Program} {o : Oper} {a : Act} {ops : Array Oper} {rest : List Oper} {W : World} {Q : Exit → Act → World → Prop} (B : Nat) (hgd : o.guard = none) (sl x : Operand) (t u e : TypeId)
  (ho : o.op = .call { callee := .builtin .append, args := #[sl, x], argTypes := #[t, u] })
  (ht : P.underlying t = some (.slice e)) (hu : P.underlying u = some .string) (hinfo : (P.info? e).map (fun i => (i.zero, i.size, i.bytes)) = some (some (.int .u8 0), 1, 1))
  (v : Value) (xs : List Int) (s : ByteArray) (hs : a.eval sl = v) (hx : a.eval x = .string s) (HO : Row W B e .u8 v xs) (hB : B ≤ W.heap.size) (h63 : xs.length + s.size ≤ maxLen) (hl : xs.length + s.size ≤ 140737488355328)
  (h : ∀ v1 w1, App W w1 B e .u8 v v1 (xs ++ bytesOf s) → wpList P ops Q rest (a.put o.dst v1) w1) : wpList P ops Q (o :: rest) a W := by
 obtain ⟨i0, hi, hzz⟩ := Option.map_eq_some_iff.1 hinfo
 simp only [Prod.mk.injEq] at hzz
 obtain ⟨hz0, hz1, hz2⟩ := hzz
 refine Go.Lib.wpList_append_own_string W hgd sl x t u ho B e i0 ht hu hi hz0 hz1 hz2 v xs.length (nums .u8 xs) hs HO s hx h63 hl hB (fun v1 w1 hown hg _ => h v1 w1 ⟨?_, hg⟩)
 unfold Row
 have e1 : nums .u8 (bytesOf s) = Go.Lib.strCells s := by simp [nums, bytesOf, Go.Lib.strCells]
 rw [List.length_append, bytesOf_length, nums_append, e1]
 exact hown
def headR (n l : Int) : List Int := [l, n % 256, n / 256, (65535 - n) % 256, (65535 - n) / 256]
def refB : Nat → ByteArray → List Int → List Int
 | 0, _, o => o
 | k + 1, s, o => if s.size ≤ 65535 then o ++ headR s.size 1 ++ bytesOf s else refB k (s.extract 65535 s.size) (o ++ headR 65535 0 ++ bytesOf (s.extract 0 65535))
def refStoreF (s : ByteArray) : ByteArray := strOfNums (refB (s.size / 65535 + 1) s [])
set_option maxRecDepth 100000 in
set_option maxHeartbeats 1500000 in
theorem refstored_calls (w : World) (s : ByteArray) (hs : s.size ≤ 100000) :
  Calls Try.prog 21 #[.string s] w fun e w' => e = .returned (.string (refStoreF s)) ∧ Below w.heap.size w w' := by
 go_enter Try.func21, Try.ntmps21
 go_wp2_with fail
 have hW := Row.empty w w.heap.size 5 .u8 (Nat.le_refl _)
 have hB := below_alloc (Below.refl w.heap.size w) (.cells #[] 5)
 have H0 : Aside0 (_ ∧ _) := ⟨hW, hB⟩
 generalize (w.alloc (.cells #[] 5)) = W0 at *
 clear hW hB
 go_loopw [0, 3] (fun v0 v3 wr => ∃ (k : Nat) (s2 : ByteArray) (o : List Int), v0 = .string s2 ∧ s2.size ≤ 100000 ∧ s2.size < 65535 * k ∧ o.length + 2 * s2.size ≤ 200100 ∧ Aside0 (refB k s2 o = refB (s.size / 65535 + 1) s [] ∧ Row wr w.heap.size 5 .u8 v3 o ∧ Below w.heap.size w wr)) (fun v0 _ _ => (match v0 with | .string t => t.size | _ => 0))
 case atStart => exact ⟨_, s, [], rfl, hs, by omega, by simp; omega, ⟨rfl, H0.out.1, H0.out.2⟩⟩
 case round =>
  clear H0
  obtain ⟨k, s2, o, rfl, hs2, hk, hL, HR⟩ := hrel
  obtain ⟨k, rfl⟩ : ∃ k', k = k' + 1 := ⟨k - 1, by omega⟩
  obtain ⟨A3, n3, k3, hv3, hn3⟩ := HR.out.2.1.shape
  subst hv3
  have heq := HR.out.1
  rw [refB] at heq
  by_cases hl : s2.size ≤ 65535
  ·have q2 : ((s2.size : Int) == (s2.size : Int)) = true := by rw [beq_iff_eq]
   rw [if_pos hl] at heq
   have HEQ := Aside0.mk heq
   have HEQ2 := HEQ
   clear heq
   have HB := Aside0.mk HR.out.2.2.size
   have w0 : IntKind.u8.wrap ((s2.size : Int) % 256) = (s2.size : Int) % 256 := (IntKind.wrap_u8 _).trans (by omega)
   have w1 : IntKind.u8.wrap ((s2.size : Int) / 256) = (s2.size : Int) / 256 := (IntKind.wrap_u8 _).trans (by omega)
   have w2 : IntKind.u8.wrap ((65535 - (s2.size : Int)) % 256) = (65535 - (s2.size : Int)) % 256 := (IntKind.wrap_u8 _).trans (by omega)
   have w3 : IntKind.u8.wrap ((65535 - (s2.size : Int)) / 256) = (65535 - (s2.size : Int)) / 256 := (IntKind.wrap_u8 _).trans (by omega)
   have hsx : s2.size ≤ 65535 := by omega
   clear HEQ
   go_wp2_with (first
    | (at_builtin; refine app_wp w.heap.size rfl _ _ 29 5 .u8 1 rfl Try.underlying29 infoU8 (.slice A3 n3 k3) o [1, (s2.size : Int) % 256, (s2.size : Int) / 256, (65535 - (s2.size : Int)) % 256, (65535 - (s2.size : Int)) / 256] rfl ⟨wr.heap.size, 0, none⟩ 5 5 rfl rfl (news_lit wr .u8 _ _ _ (by rfl)) (HR.out.2.1.alloc _) (by have := HB.out; simp; omega) (by unfold maxLen; omega) (by omega) ?_; intro v4 w4 hap; obtain ⟨A4, n4, k4, hv4, hn4⟩ := hap.row.shape; subst hv4; have HP4 := Aside0.mk hap; have hs4 : w.heap.size ≤ w4.heap.size := (by have h1 := hap.grown.size; have h2 := HB.out; simp at h1; omega); clear hap)
    | (at_builtin; refine s_app_str_wp w.heap.size rfl _ _ 29 9 5 rfl Try.underlying29 Try.underlying9 infoU8 (.slice A4 n4 k4) (o ++ [1, (s2.size : Int) % 256, (s2.size : Int) / 256, (65535 - (s2.size : Int)) % 256, (65535 - (s2.size : Int)) / 256]) s2 rfl rfl HP4.out.row hs4 (by unfold maxLen; simp; omega) (by simp; omega) ?_; intro v5 w5 hap5; obtain ⟨A5, n5, k5, hv5, hn5⟩ := hap5.row.shape; subst hv5; have HP5 := Aside0.mk hap5; have hrs := hap5.row.str (P := Try.prog) (src := 29) (dst := 9) Try.underlying29 Try.underlying5 Try.underlying9; clear hap5))
   have HBL : Aside0 (_) := ⟨HR.out.2.2.trans ((HP4.out.below1 HR.out.2.1 HB.out).trans (HP5.out.below HP4.out.row hs4))⟩
   have he : refStoreF s = strOfNums (o ++ [1, (s2.size : Int) % 256, (s2.size : Int) / 256, (65535 - (s2.size : Int)) % 256, (65535 - (s2.size : Int)) / 256] ++ bytesOf s2) := by unfold refStoreF; rw [← HEQ2.out]; rfl
   simp only [List.append_assoc, List.cons_append, List.nil_append] at he
   rw [he]
   go_returns
   exact ⟨rfl, HBL.out⟩
  ·have q2 : ((65535 : Int) == (s2.size : Int)) = false := by rw [beq_eq_false_iff_ne]; omega
   rw [if_neg hl] at heq
   have HEQ := Aside0.mk heq
   have HEQ2 := HEQ
   clear heq
   have HB := Aside0.mk HR.out.2.2.size
   have w0 : IntKind.u8.wrap ((65535 : Int) % 256) = (65535 : Int) % 256 := (IntKind.wrap_u8 _).trans (by omega)
   have w1 : IntKind.u8.wrap ((65535 : Int) / 256) = (65535 : Int) / 256 := (IntKind.wrap_u8 _).trans (by omega)
   have w2 : IntKind.u8.wrap ((65535 - (65535 : Int)) % 256) = (65535 - (65535 : Int)) % 256 := (IntKind.wrap_u8 _).trans (by omega)
   have w3 : IntKind.u8.wrap ((65535 - (65535 : Int)) / 256) = (65535 - (65535 : Int)) / 256 := (IntKind.wrap_u8 _).trans (by omega)
   have hsx : (s2.extract 0 65535).size ≤ 65535 := by rw [ByteArray.size_extract]; omega
   clear HEQ
   go_wp2_with (first
    | (at_builtin; refine app_wp w.heap.size rfl _ _ 29 5 .u8 1 rfl Try.underlying29 infoU8 (.slice A3 n3 k3) o [0, 255, 255, 0, 0] rfl ⟨wr.heap.size, 0, none⟩ 5 5 rfl rfl (news_lit wr .u8 _ _ _ (by rfl)) (HR.out.2.1.alloc _) (by have := HB.out; simp; omega) (by unfold maxLen; omega) (by omega) ?_; intro v4 w4 hap; obtain ⟨A4, n4, k4, hv4, hn4⟩ := hap.row.shape; subst hv4; have HP4 := Aside0.mk hap; have hs4 : w.heap.size ≤ w4.heap.size := (by have h1 := hap.grown.size; have h2 := HB.out; simp at h1; omega); clear hap)
    | (at_builtin; refine s_app_str_wp w.heap.size rfl _ _ 29 9 5 rfl Try.underlying29 Try.underlying9 infoU8 (.slice A4 n4 k4) (o ++ [0, 255, 255, 0, 0]) (s2.extract 0 65535) rfl rfl HP4.out.row hs4 (by unfold maxLen; simp; omega) (by simp; omega) ?_; intro v5 w5 hap5; obtain ⟨A5, n5, k5, hv5, hn5⟩ := hap5.row.shape; subst hv5; have HP5 := Aside0.mk hap5; have hrs := hap5.row.str (P := Try.prog) (src := 29) (dst := 9) Try.underlying29 Try.underlying5 Try.underlying9; clear hap5))
   have HBL : Aside0 (_) := ⟨HR.out.2.2.trans ((HP4.out.below1 HR.out.2.1 HB.out).trans (HP5.out.below HP4.out.row hs4))⟩
   have hxs : (s2.extract 65535 s2.size).size = s2.size - 65535 := by rw [ByteArray.size_extract]; omega
   have hx0 : (s2.extract 0 65535).size = 65535 := by rw [ByteArray.size_extract]; omega
   clear hrs
   go_roundw
   case rel => exact ⟨k, s2.extract 65535 s2.size, _, rfl, by omega, by omega, by rw [List.length_append, List.length_append, bytesOf_length, hxs, hx0]; have : (headR 65535 0).length = 5 := rfl; omega, ⟨HEQ2.out, HP5.out.row, HBL.out⟩⟩
   case measure => show (s2.extract 65535 s2.size).size < s2.size; omega
def binderyref11_Stored.f (a0 : ByteArray) : Option ByteArray := if a0.size ≤ 100000 then some (refStoreF a0) else none
theorem binderyref11_Stored.calls (a0 : ByteArray) (r : ByteArray) (w : World) (h : binderyref11_Stored.f a0 = some r) :
  Calls Try.prog 21 #[.string a0] w fun e w' => e = .returned (.string r) ∧ Below w.heap.size w w' := by
 unfold binderyref11_Stored.f at h
 split at h
 ·rename_i hs
  injection h with h
  subst h
  exact refstored_calls w a0 hs
 ·cases h
end Go.Proofs.Ytbgdadehjnifeaa.Hand
namespace Go.Proofs.Ytbgdadehjnifeaa.Hand
open Go.RowKit Go.Proofs.YtbgdadehjnifeaaW.PrintWords Go.Proofs.YtbgdadehjnifeaaW.PrintLast Go.Proofs.YtbgdadehjnifeaaW.PrintMore Go.Proofs.Ytbgdadehjnifeaa.Num Go.Proofs.Ytbgdadehjnifeaa.Bits
set_option linter.unusedVariables false
set_option linter.unusedSimpArgs false
set_option maxRecDepth 100000
theorem unflat_length : ∀ (k : Nat) (L : List Int), (unflat k L).length = k
 | 0, _ => rfl
 | k + 1, L => by rw [unflat, List.length_cons, unflat_length k]
theorem textL_size (L : List Int) : (textL L).size = (L.length + 7) / 8 := by
 unfold textL
 rw [strOfNums_size, unflat_length]
theorem alignL_length (L : List Int) : (alignL L).length = L.length + (8 - L.length % 8) % 8 := by
 unfold alignL
 rw [List.length_append, List.length_replicate]
theorem headB_length (s : ByteArray) (L : List Int) (h : L.length % 8 = 0) : (headB s L).length = L.length + 40 := by
 unfold headB
 simp only [List.length_append, bitsN_length, alignL_length]
 omega
def blocksN (n : Nat) : Nat := max 1 ((n + 65534) / 65535)
theorem storeB_length : ∀ (k : Nat) (s : ByteArray) (L : List Int), s.size < 65535 * k → L.length % 8 = 0 → (storeB k s L).length = L.length + 40 * blocksN s.size + 8 * s.size
 | 0, s, L, h, _ => absurd h (by omega)
 | k + 1, s, L, h, hL => by
  rw [storeB]
  have hh := headB_length s L hL
  split
  ·rename_i h1
   rw [List.length_append, flat_length, bytesOf_length, hh]
   unfold blocksN
   omega
  ·rename_i h1
   have e0 : (s.extract 0 65535).size = 65535 := by rw [ByteArray.size_extract]; omega
   have e1 : (s.extract 65535 s.size).size = s.size - 65535 := by rw [ByteArray.size_extract]; omega
   rw [storeB_length k _ _ (by rw [e1]; omega) (by rw [List.length_append, flat_length, bytesOf_length, hh, e0]; omega), List.length_append, flat_length, bytesOf_length, hh, e0, e1]
   unfold blocksN
   omega
theorem storeF_size (s : ByteArray) : (storeF s).size = s.size + 5 * blocksN s.size := by
 unfold storeF
 rw [textL_size, storeB_length _ _ _ (by omega) (by rfl)]
 simp only [List.length_nil]
 omega
end Go.Proofs.Ytbgdadehjnifeaa.Hand
namespace Go.Proofs.Ytbgdadehjnifeaa.Hand
open Go.RowKit Go.Proofs.YtbgdadehjnifeaaW.PrintWords Go.Proofs.YtbgdadehjnifeaaW.PrintLast Go.Proofs.YtbgdadehjnifeaaW.PrintMore Go.Proofs.Ytbgdadehjnifeaa.Num Go.Proofs.Ytbgdadehjnifeaa.Bits
set_option linter.unusedVariables false
set_option linter.unusedSimpArgs false
set_option maxRecDepth 100000
def Bit01 (L : List Int) : Prop := ∀ b ∈ L, b = 0 ∨ b = 1
theorem Bit01.app {a b : List Int} (h : Bit01 a) (k : Bit01 b) : Bit01 (a ++ b) := fun x hx => by rcases List.mem_append.1 hx with hx | hx; exact h x hx; exact k x hx
theorem bit01_bits : ∀ (w : Nat) (n : Int), Bit01 (bitsN n w)
 | 0, n => fun b hb => by rw [bitsN] at hb; cases hb
 | w + 1, n => fun b hb => by
  rw [bitsN] at hb
  rcases List.mem_cons.1 hb with hb | hb
  ·omega
  ·exact bit01_bits w _ b hb
theorem bit01_rev (c : Int) : ∀ w, Bit01 (revB c w)
 | 0 => fun b hb => by rw [revB] at hb; cases hb
 | w + 1 => fun b hb => by
  rw [revB] at hb
  rcases List.mem_cons.1 hb with hb | hb
  ·omega
  ·exact bit01_rev c w b hb
theorem bit01_copy (n back : Int) : Bit01 (copyB n back) := ((bit01_rev _ _).app (bit01_bits _ _)).app ((bit01_rev _ _).app (bit01_bits _ _))
theorem bit01_fix (s : ByteArray) : ∀ k a, Bit01 (fixG s k a)
 | 0, a => fun b hb => by rw [fixG] at hb; cases hb
 | k + 1, a => by
  rw [fixG]
  split
  ·split
   ·exact (bit01_rev _ _).app (bit01_fix s k _)
   ·exact (bit01_copy _ _).app (bit01_fix s k _)
  ·exact bit01_rev _ _
theorem held_snoc {L xs : List Int} {x : Int} {m : Nat} (h : Held L xs x m) (b : Int) (hb : b = 0 ∨ b = 1) : ∃ xs' x' m', Held (L ++ [b]) xs' x' m' := by
 have e1 : bitsN b 1 = [b] := by rcases hb with rfl | rfl <;> rfl
 have hb0 : 0 ≤ b := by omega
 have hc := bitsN_cat x b m h.x0 h.x1 hb0 1
 rw [e1] at hc
 have hp : (0 : Int) < 2 ^ m := Int.pow_pos (by decide)
 have hx2 : x + b * 2 ^ m < 2 ^ (m + 1) := by
  have := h.x1
  rw [Int.pow_succ]
  rcases hb with rfl | rfl <;> omega
 have hx0 : 0 ≤ x + b * 2 ^ m := by
  have := h.x0
  rcases hb with rfl | rfl <;> omega
 by_cases h7 : m = 7
 ·subst h7
  refine ⟨xs ++ [x + b * 2 ^ 7], 0, 0, by omega, by omega, by decide, ?_, fun y hy => ?_⟩
  ·rw [flat_snoc, show bitsN (x + b * 2 ^ 7) 8 = bitsN x 7 ++ [b] from hc, h.eq, List.append_assoc]
   simp [bitsN]
  ·rcases List.mem_append.1 hy with hy | hy
   ·exact h.by_ y hy
   ·rw [List.mem_singleton.1 hy]; exact ⟨hx0, hx2⟩
 ·exact ⟨xs, x + b * 2 ^ m, m + 1, by have := h.lt; omega, hx0, hx2, by rw [hc, h.eq, List.append_assoc], h.by_⟩
theorem held_bits (L : List Int) (h : Bit01 L) : ∃ xs x m, Held L xs x m := by
 induction hn : L.length generalizing L with
 | zero => obtain rfl := List.eq_nil_of_length_eq_zero hn; exact ⟨[], 0, 0, Held.nil⟩
 | succ n ih =>
  have hne : L ≠ [] := by intro he; rw [he] at hn; cases hn
  have e := List.dropLast_concat_getLast hne
  obtain ⟨xs, x, m, hh⟩ := ih L.dropLast (fun b hb => h b (List.dropLast_sublist L |>.subset hb)) (by rw [List.length_dropLast]; omega)
  have := held_snoc hh (L.getLast hne) (h _ (List.getLast_mem hne))
  rw [e] at this
  exact this
def pcL (s : ByteArray) (at_ : Nat) : Nat → Nat → Nat → Nat × Nat
 | 0, l, b => (l, b)
 | j + 1, l, b => if 32768 < at_ - j then (l, b) else if l < alk s 258 j at_ then pcL s at_ j (alk s 258 j at_) (at_ - j) else pcL s at_ j l b
def pieceF (s : ByteArray) (at_ : Nat) : Nat × Nat := pcL s at_ at_ 0 0
theorem pcL_full (s : ByteArray) (at_ : Nat) (b : Nat) : ∀ jj, pcL s at_ jj 258 b = (258, b)
 | 0 => rfl
 | j + 1 => by
  rw [pcL]
  split
  ·rfl
  ·rw [if_neg (by have := alk_le s 258 j at_; omega)]
   exact pcL_full s at_ b j
theorem goL_far (s : ByteArray) (at_ l b : Nat) : ∀ jj, 32768 < at_ + 1 - jj → goL s at_ jj l b = (l, b)
 | 0, _ => rfl
 | j + 1, h => by
  rw [goL]
  split
  ·rw [if_pos (by omega)]
  ·exact goL_far s at_ l b j (by omega)
theorem key_alk (s : ByteArray) (j at_ : Nat) (hj : j ≤ at_) (h3 : at_ + 3 ≤ s.size) : key3 s j = key3 s at_ ↔ 3 ≤ alk s 258 j at_ := by
 have e : alk s 258 j at_ = if at_ < s.size ∧ bt s at_ = bt s j then (if at_ + 1 < s.size ∧ bt s ((at_ + 1 : Nat) : Int) = bt s ((j + 1 : Nat) : Int) then (if at_ + 2 < s.size ∧ bt s ((at_ + 2 : Nat) : Int) = bt s ((j + 2 : Nat) : Int) then alk s 255 (j + 3) (at_ + 3) + 1 else 0) + 1 else 0) + 1 else 0 := by
  rw [show (258 : Nat) = 255 + 1 + 1 + 1 from rfl, alk, alk, alk]
 have a0 := bt_byte s at_
 have a1 := bt_byte s ((at_ + 1 : Nat) : Int)
 have a2 := bt_byte s ((at_ + 2 : Nat) : Int)
 have b0 := bt_byte s j
 have b1 := bt_byte s ((j + 1 : Nat) : Int)
 have b2 := bt_byte s ((j + 2 : Nat) : Int)
 rw [e]
 unfold key3
 constructor
 ·intro h
  rw [if_pos ⟨by omega, by omega⟩, if_pos ⟨by omega, by omega⟩, if_pos ⟨by omega, by omega⟩]
  omega
 ·intro h
  split at h
  ·rename_i c0
   split at h
   ·rename_i c1
    split at h
    ·rename_i c2
     rw [c0.2, c1.2, c2.2]
    ·omega
   ·omega
  ·omega
theorem pc_go (s : ByteArray) (at_ : Nat) (h3 : at_ + 3 ≤ s.size) : ∀ jj l b l' b', jj ≤ at_ → l ≤ 258 → ((3 ≤ l ∧ l = l' ∧ b = b') ∨ (l < 3 ∧ l' < 3)) →
  ((3 ≤ (pcL s at_ jj l b).1 ∧ pcL s at_ jj l b = goL s at_ jj l' b') ∨ ((pcL s at_ jj l b).1 < 3 ∧ (goL s at_ jj l' b').1 < 3))
 | 0, l, b, l', b', _, _, h => by
  rw [pcL, goL]
  rcases h with ⟨h1, h2, h4⟩ | h
  ·subst h2 h4; exact .inl ⟨h1, rfl⟩
  ·exact .inr h
 | j + 1, l, b, l', b', hj, hl, h => by
  have hk := key_alk s j at_ (by omega) h3
  have hle := alk_le s 258 j at_
  rw [pcL]
  by_cases hfar : 32768 < at_ - j
  ·rw [if_pos hfar, goL_far s at_ l' b' (j + 1) (by omega)]
   rcases h with ⟨h1, h2, h4⟩ | h
   ·subst h2 h4; exact .inl ⟨h1, rfl⟩
   ·exact .inr h
  ·rw [if_neg hfar, goL]
   by_cases hkey : key3 s j = key3 s at_
   ·have h3a := hk.1 hkey
    rw [if_pos hkey, if_neg hfar]
    by_cases hlt : l < alk s 258 j at_
    ·rw [if_pos hlt, if_neg (by rcases h with ⟨h1, h2, h4⟩ | h <;> omega)]
     by_cases h258 : alk s 258 j at_ = 258
     ·rw [if_pos h258, h258, pcL_full]
      exact .inl ⟨by show 3 ≤ 258; omega, rfl⟩
     ·rw [if_neg h258]
      exact pc_go s at_ h3 j _ _ _ _ (by omega) hle (.inl ⟨h3a, rfl, rfl⟩)
    ·rcases h with ⟨h1, h2, h4⟩ | h
     ·rw [if_neg hlt, if_pos (by omega)]
      exact pc_go s at_ h3 j _ _ _ _ (by omega) hl (.inl ⟨h1, h2, h4⟩)
     ·omega
   ·have h3a : ¬ 3 ≤ alk s 258 j at_ := fun hh => hkey (hk.2 hh)
    rw [if_neg hkey]
    by_cases hlt : l < alk s 258 j at_
    ·rw [if_pos hlt]
     exact pc_go s at_ h3 j _ _ _ _ (by omega) hle (.inr ⟨by omega, by rcases h with ⟨h1, h2, h4⟩ | h <;> omega⟩)
    ·rw [if_neg hlt]
     exact pc_go s at_ h3 j _ _ _ _ (by omega) hl h
theorem pcL_le (s : ByteArray) (at_ : Nat) (hat : at_ ≤ s.size) : ∀ jj l b, (pcL s at_ jj l b).1 ≤ max l (s.size - at_)
 | 0, l, b => by rw [pcL]; exact Nat.le_max_left _ _
 | j + 1, l, b => by
  rw [pcL]
  split
  ·exact Nat.le_max_left _ _
  ·split
   ·have h1 := pcL_le s at_ hat j (alk s 258 j at_) (at_ - j)
    have h2 := alk_size s 258 j at_ hat
    omega
   ·exact pcL_le s at_ hat j l b
theorem piece_find (s : ByteArray) (at_ : Nat) (hat : at_ ≤ s.size) : (3 ≤ (pieceF s at_).1 ∧ pieceF s at_ = findF s at_) ∨ ((pieceF s at_).1 < 3 ∧ (findF s at_).1 < 3) := by
 unfold pieceF findF
 by_cases h3 : s.size < at_ + 3
 ·rw [if_pos h3]
  have := pcL_le s at_ hat at_ 0 0
  exact .inr ⟨by omega, by decide⟩
 ·rw [if_neg h3]
  exact pc_go s at_ (by omega) at_ 0 0 0 0 (Nat.le_refl _) (by omega) (.inr ⟨by omega, by omega⟩)
theorem held_textL {L xs : List Int} {x : Int} {m : Nat} (h : Held L xs x m) : strOfNums (packL xs x m) = textL L := TextOf.textL h.text
theorem flat_app (a b : List Int) : flat (a ++ b) = flat a ++ flat b := by simp [flat]
theorem headR_range (n l : Int) (h0 : 0 ≤ n) (h1 : n ≤ 65535) (hl : 0 ≤ l ∧ l < 256) : ∀ x ∈ headR n l, 0 ≤ x ∧ x < 256 := by
 intro x hx
 simp only [headR, List.mem_cons, List.not_mem_nil, or_false] at hx
 omega
theorem bits16 (n : Int) (h0 : 0 ≤ n) : bitsN n 16 = bitsN (n % 256) 8 ++ bitsN (n / 256) 8 := by
 rw [show (16 : Nat) = 8 + 8 from rfl, bitsN_add n h0, show (256 : Int) = 2 ^ 8 from rfl, bitsN_mod n h0]
theorem flat_headR (n l : Int) (h0 : 0 ≤ n) (h1 : n ≤ 65535) : flat (headR n l) = bitsN l 8 ++ (bitsN n 16 ++ bitsN (65535 - n) 16) := by
 rw [bits16 n h0, bits16 (65535 - n) (by omega)]
 simp only [headR, flat_cons, List.append_assoc]
 simp [flat]
theorem head_flat (s : ByteArray) (o : List Int) (l : Int) (n : Nat) (hl : l = if s.size ≤ 65535 then 1 else 0) (hn : n = min s.size 65535) : headB s (flat o) = flat (o ++ headR n l) := by
 have h8 : (flat o ++ bitsN l 1 ++ bitsN 0 2).length = 8 * o.length + 3 := by rw [List.length_append, List.length_append, flat_length, bitsN_length, bitsN_length]
 unfold headB alignL
 rw [← hl, ← hn, h8, flat_app, flat_headR _ _ (by omega) (by omega), show (8 - (8 * o.length + 3) % 8) % 8 = 5 by omega]
 have hp : bitsN l 1 ++ (bitsN 0 2 ++ List.replicate 5 0) = bitsN l 8 := by
  rw [bitsN_zero, List.replicate_append_replicate, bitsN_pad l 1 (by rw [hl]; split <;> decide) (by rw [hl]; split <;> decide)]
 rw [← hp]
 simp only [List.append_assoc]
theorem store_ref : ∀ (k : Nat) (s : ByteArray) (o : List Int), s.size < 65535 * k → (∀ x ∈ o, 0 ≤ x ∧ x < 256) → storeB k s (flat o) = flat (refB k s o) ∧ ∀ x ∈ refB k s o, 0 ≤ x ∧ x < 256
 | 0, s, o, h, _ => absurd h (by omega)
 | k + 1, s, o, h, ho => by
  rw [storeB, refB]
  split
  ·rename_i h1
   rw [head_flat s o 1 s.size (by rw [if_pos h1]) (by omega), ← flat_app]
   refine ⟨rfl, fun x hx => ?_⟩
   rcases List.mem_append.1 hx with hx | hx
   ·rcases List.mem_append.1 hx with hx | hx
    ·exact ho x hx
    ·exact headR_range _ _ (by omega) (by omega) (by decide) x hx
   ·exact bytes_range s x hx
  ·rename_i h1
   rw [head_flat s o 0 65535 (by rw [if_neg h1]) (by omega), ← flat_app]
   refine store_ref k _ _ (by rw [ByteArray.size_extract]; omega) (fun x hx => ?_)
   rcases List.mem_append.1 hx with hx | hx
   ·rcases List.mem_append.1 hx with hx | hx
    ·exact ho x hx
    ·exact headR_range 65535 0 (by omega) (by omega) (by decide) x hx
   ·exact bytes_range _ x hx
theorem textL_flat (ys : List Int) (h : ∀ y ∈ ys, 0 ≤ y ∧ y < 256) : textL (flat ys) = strOfNums ys := by
 unfold textL
 rw [flat_length, show (8 * ys.length + 7) / 8 = ys.length by omega, show (8 - 8 * ys.length % 8) % 8 = 0 by omega, List.replicate_zero, List.append_nil, unflat_flat ys h]
theorem store_same (s : ByteArray) : storeF s = refStoreF s := by
 have h := store_ref (s.size / 65535 + 1) s [] (by omega) (fun x hx => by cases hx)
 unfold storeF refStoreF
 rw [show storeB (s.size / 65535 + 1) s [] = storeB (s.size / 65535 + 1) s (flat []) from rfl, h.1, textL_flat _ h.2]
end Go.Proofs.Ytbgdadehjnifeaa.Hand
