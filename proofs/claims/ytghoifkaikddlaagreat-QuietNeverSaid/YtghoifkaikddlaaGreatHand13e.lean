/- The contract of predict.Decode of the given program: a plain Lean function in rounds tells what it tells. The contract of predict.Decode of the given program: a plain Lean function in rounds tells what it tells. The contract of the document's Encode of layer 13: a plain Lean function tells what it tells. -/
import Derived.Test.YtghoifkaikddlaaGreatBits
namespace Go.Proofs.YtghoifkaikddlaaGreat.Hand
open Go.RowKit Go.Proofs.YtghoifkaikddlaaGreatW.PrintWords Go.Proofs.YtghoifkaikddlaaGreatW.PrintLast Go.Proofs.YtghoifkaikddlaaGreatW.PrintMore Go.Proofs.YtghoifkaikddlaaGreat.Num
attribute [local go_sem] max2_int min2_int max_two min_two
set_option linter.unusedVariables false
set_option linter.unusedSimpArgs false
def dist (a b : Int) : Int := if a - b < b - a then b - a else a - b
theorem apart_calls (a b : Int) (w : World) (ha : -100000 ≤ a ∧ a ≤ 100000) (hb : -100000 ≤ b ∧ b ≤ 100000) :
  Calls Tryz.prog 113 #[.int .i64 a, .int .i64 b] w fun e w' => e = .returned (.int .i64 (dist a b)) ∧ Drawn0 w w' := by
 obtain ⟨a1, a2⟩ := ha
 obtain ⟨b1, b2⟩ := hb
 go_enter Tryz.func113, Tryz.ntmps113
 go_wp2
 ·have h : a - b < b - a := by assumption
  go_ret
  exact ⟨by unfold dist; rw [if_pos h]; rfl, Drawn0.refl _⟩
 ·have h : b - a ≤ a - b := by assumption
  go_ret
  exact ⟨by unfold dist; rw [if_neg (by omega)]; rfl, Drawn0.refl _⟩
theorem dist_range (a b : Int) (ha : -100000 ≤ a ∧ a ≤ 100000) (hb : -100000 ≤ b ∧ b ≤ 100000) : 0 ≤ dist a b ∧ dist a b ≤ 200000 := by
 unfold dist; split <;> omega
def nearF (a b c : Int) : Int :=
 let p := a + b - c
 let m := if dist p b < dist p a then b else a
 if dist p c < dist p m then c else m
theorem nearest_calls (a b c : Int) (w : World) (ha : 0 ≤ a ∧ a ≤ 255) (hb : 0 ≤ b ∧ b ≤ 255) (hc : 0 ≤ c ∧ c ≤ 255) :
  Calls Tryz.prog 88 #[.agg #[.int .i64 a, .int .i64 b, .int .i64 c]] w fun e w' => e = .returned (.int .i64 (nearF a b c)) ∧ Below w.heap.size w w' := by
 obtain ⟨a1, a2⟩ := ha
 obtain ⟨b1, b2⟩ := hb
 obtain ⟨c1, c2⟩ := hc
 go_enter Tryz.func88, Tryz.ntmps88
 go_wp2_with fail
 have hbk := blk_new w (.cells #[.int .i64 a, .int .i64 b, .int .i64 c] 71)
 have hbl := below_alloc (Below.refl w.heap.size w) (.cells #[.int .i64 a, .int .i64 b, .int .i64 c] 71)
 obtain ⟨g, hg⟩ : ∃ g, g = w.heap.size := ⟨_, rfl⟩
 have hbk2 : (w.alloc (.cells #[.int .i64 a, .int .i64 b, .int .i64 c] 71)).heap[g]? = some (.cells #[.int .i64 a, .int .i64 b, .int .i64 c] 71 (0, 0)) := by rw [hg]; exact hbk
 rw [← hg]
 clear hbk hg
 generalize w.alloc (.cells #[.int .i64 a, .int .i64 b, .int .i64 c] 71) = w0 at hbl hbk2 ⊢
 obtain ⟨p, hp⟩ : ∃ p, p = a + b - c := ⟨_, rfl⟩
 have p1 : -100000 ≤ p ∧ p ≤ 100000 := by omega
 obtain ⟨m, hm⟩ : ∃ m, m = if dist p b < dist p a then b else a := ⟨_, rfl⟩
 obtain ⟨z, hz⟩ : ∃ z, z = if dist p c < dist p m then c else m := ⟨_, rfl⟩
 have hr : nearF a b c = z := by rw [hz, hm, hp]; rfl
 have hm1 : 0 ≤ m ∧ m ≤ 255 := by rw [hm]; split <;> omega
 have da := dist_range p a p1 (by omega)
 have db := dist_range p b p1 (by omega)
 have dc := dist_range p c p1 (by omega)
 have dm := dist_range p m p1 (by omega)
 have HM := Aside0.mk hm
 have HZ := Aside0.mk hz
 have HR := Aside0.mk hr
 rw [← hp]
 clear hm hz hr hp
 go_loopw [4, 19] (fun v4 v19 wr => ∃ (i : Nat) (x : Int), i ≤ 2 ∧ v19 = .int .i64 i ∧ v4 = .int .i64 x ∧ Aside0 (x = if i = 0 then a else if i = 1 then m else z) ∧
  Aside0 (wr.heap[g]? = some (.cells #[.int .i64 a, .int .i64 b, .int .i64 c] 71 (0, 0))) ∧ Aside0 (Below w.heap.size w wr)) (fun _ v19 _ => 2 - (intOf v19).toNat)
 case atStart => exact ⟨0, a, by omega, rfl, rfl, ⟨rfl⟩, ⟨hbk2⟩, ⟨hbl⟩⟩
 case round =>
  clear hbk2 hbl
  obtain ⟨i, x, i1, rfl, rfl, HX, HB, HL⟩ := hrel
  have k0 := blk_cell HB.out 0
  have k1 := blk_cell HB.out 1
  have k2 := blk_cell HB.out 2
  rcases (show i = 0 ∨ i = 1 ∨ i = 2 by omega) with rfl | rfl | rfl
  ·have hx := HX.out
   simp only [if_true] at hx
   subst hx
   have e0 : ((0 : Nat) : Int) = 0 := rfl
   rw [e0]
   go_wp2_with (first | (go_at_call 113; (with_reducible refine (apart_calls p b _ p1 (by omega)).mono ?_); rintro e w1 ⟨rfl, ⟨nd, rfl⟩⟩) | (go_at_call 113; (with_reducible refine (apart_calls p x _ p1 (by omega)).mono ?_); rintro e w1 ⟨rfl, ⟨nd, rfl⟩⟩))
   ·have h : dist p b < dist p x := by assumption
    exact ⟨⟨1, b, by omega, rfl, rfl, ⟨by rw [if_neg (by omega), if_pos rfl, HM.out, if_pos h]⟩, ⟨HB.out⟩, ⟨pw_below_drewN HL.out _⟩⟩, by simp [intOf]⟩
   ·have h : dist p x ≤ dist p b := by assumption
    exact ⟨⟨1, x, by omega, rfl, rfl, ⟨by rw [if_neg (by omega), if_pos rfl, HM.out, if_neg (by omega)]⟩, ⟨HB.out⟩, ⟨pw_below_drewN HL.out _⟩⟩, by simp [intOf]⟩
  ·have hx := HX.out
   rw [if_neg (by omega), if_pos rfl] at hx
   subst hx
   have e0 : ((1 : Nat) : Int) = 1 := rfl
   rw [e0]
   go_wp2_with (first | (go_at_call 113; (with_reducible refine (apart_calls p c _ p1 (by omega)).mono ?_); rintro e w1 ⟨rfl, ⟨nd, rfl⟩⟩) | (go_at_call 113; (with_reducible refine (apart_calls p x _ p1 (by omega)).mono ?_); rintro e w1 ⟨rfl, ⟨nd, rfl⟩⟩))
   ·have h : dist p c < dist p x := by assumption
    exact ⟨⟨2, c, by omega, rfl, rfl, ⟨by rw [if_neg (by omega), if_neg (by omega), HZ.out, if_pos h]⟩, ⟨HB.out⟩, ⟨pw_below_drewN HL.out _⟩⟩, by simp [intOf]⟩
   ·have h : dist p x ≤ dist p c := by assumption
    exact ⟨⟨2, x, by omega, rfl, rfl, ⟨by rw [if_neg (by omega), if_neg (by omega), HZ.out, if_neg (by omega)]⟩, ⟨HB.out⟩, ⟨pw_below_drewN HL.out _⟩⟩, by simp [intOf]⟩
  ·have hx := HX.out
   rw [if_neg (by omega), if_neg (by omega)] at hx
   subst hx
   go_wp2
   go_ret
   rw [HR.out]
   exact ⟨rfl, HL.out⟩
def guessF (kind a b c : Int) : Option Int := if kind = 1 then some a else if kind = 0 then some 0 else if kind = 2 then some b else if kind = 3 then some ((a + b) / 2) else if kind = 4 then some (nearF a b c) else none
def GuessPost (r : Option Int) (w : World) (e : Ending) (w' : World) : Prop :=
 e = .returned (.tuple #[.int .i64 (r.getD 0), .bool r.isSome]) ∧ Below w.heap.size w w'
theorem guess_calls (kind a b c : Int) (w : World) (hk : 0 ≤ kind ∧ kind ≤ 255) (ha : 0 ≤ a ∧ a ≤ 255) (hb : 0 ≤ b ∧ b ≤ 255) (hc : 0 ≤ c ∧ c ≤ 255) :
  Calls Tryz.prog 59 #[.agg #[.int .i64 a, .int .i64 b, .int .i64 c], .int .u8 kind] w (GuessPost (guessF kind a b c) w) := by
 have hbk := blk_new w (.cells #[.int .i64 a, .int .i64 b, .int .i64 c] 71)
 have hbl := below_alloc (Below.refl w.heap.size w) (.cells #[.int .i64 a, .int .i64 b, .int .i64 c] 71)
 have near := fun W => nearest_calls a b c W ha hb hc
 have HN := Aside0.mk near
 have HL := Aside0.mk hbl
 clear near hbl hbk
 obtain ⟨a1, a2⟩ := ha
 obtain ⟨b1, b2⟩ := hb
 rcases (show kind = 1 ∨ kind = 0 ∨ kind = 2 ∨ kind = 3 ∨ kind = 4 ∨ 4 < kind by omega) with rfl | rfl | rfl | rfl | rfl | h5
 ·go_enter Tryz.func59, Tryz.ntmps59
  go_wp2
  go_ret2
  exact ⟨rfl, HL.out⟩
 ·go_enter Tryz.func59, Tryz.ntmps59
  go_wp2
  go_ret2
  exact ⟨rfl, HL.out⟩
 ·go_enter Tryz.func59, Tryz.ntmps59
  go_wp2
  go_ret2
  exact ⟨rfl, HL.out⟩
 ·go_enter Tryz.func59, Tryz.ntmps59
  go_wp2
  go_ret2
  exact ⟨rfl, HL.out⟩
 ·go_enter Tryz.func59, Tryz.ntmps59
  go_wp2_with (go_at_call 88; (with_reducible refine (HN.out _).mono ?_); rintro e w1 ⟨rfl, hb1⟩)
  go_ret2
  exact ⟨rfl, HL.out.trans (hb1.mono (by simp))⟩
 ·have e0 : (kind == 0) = false := beq_eq_false_iff_ne.2 (by omega)
  have e1 : (kind == 1) = false := beq_eq_false_iff_ne.2 (by omega)
  have e2 : (kind == 2) = false := beq_eq_false_iff_ne.2 (by omega)
  have e3 : (kind == 3) = false := beq_eq_false_iff_ne.2 (by omega)
  have e4 : (kind == 4) = false := beq_eq_false_iff_ne.2 (by omega)
  have hg : guessF kind a b c = none := by
   unfold guessF
   rw [if_neg (by omega), if_neg (by omega), if_neg (by omega), if_neg (by omega), if_neg (by omega)]
  have HG := Aside0.mk hg
  clear hg
  go_enter Tryz.func59, Tryz.ntmps59
  go_wp2
  go_ret2
  rw [HG.out]
  exact ⟨rfl, HL.out⟩
theorem guess_none (kind a b c : Int) (w : World) (hk : 0 ≤ kind ∧ kind ≤ 255) (ha : 0 ≤ a ∧ a ≤ 255) (hb : 0 ≤ b ∧ b ≤ 255) (hc : 0 ≤ c ∧ c ≤ 255) (h : guessF kind a b c = none) :
  Calls Tryz.prog 59 #[.agg #[.int .i64 a, .int .i64 b, .int .i64 c], .int .u8 kind] w fun e w' => e = .returned (.tuple #[.int .i64 0, .bool false]) ∧ Below w.heap.size w w' :=
 (guess_calls kind a b c w hk ha hb hc).mono (fun e w' hp => by obtain ⟨h1, h2⟩ := hp; rw [h] at h1; exact ⟨h1, h2⟩)
theorem guess_some (kind a b c r : Int) (w : World) (hk : 0 ≤ kind ∧ kind ≤ 255) (ha : 0 ≤ a ∧ a ≤ 255) (hb : 0 ≤ b ∧ b ≤ 255) (hc : 0 ≤ c ∧ c ≤ 255) (h : guessF kind a b c = some r) :
  Calls Tryz.prog 59 #[.agg #[.int .i64 a, .int .i64 b, .int .i64 c], .int .u8 kind] w fun e w' => e = .returned (.tuple #[.int .i64 r, .bool true]) ∧ Below w.heap.size w w' :=
 (guess_calls kind a b c w hk ha hb hc).mono (fun e w' hp => by obtain ⟨h1, h2⟩ := hp; rw [h] at h1; exact ⟨h1, h2⟩)
theorem guess_range {kind a b c r : Int} (ha : 0 ≤ a ∧ a ≤ 255) (hb : 0 ≤ b ∧ b ≤ 255) (hc : 0 ≤ c ∧ c ≤ 255) (h : guessF kind a b c = some r) : 0 ≤ r ∧ r ≤ 255 := by
 unfold guessF at h
 have hn : 0 ≤ nearF a b c ∧ nearF a b c ≤ 255 := by
  unfold nearF
  simp only
  split <;> split <;> omega
 repeat (split at h; · (injection h with h; omega))
 cases h
def rowF (t : ByteArray) (ab : List Int) : Nat → Option (List Int)
 | 0 => some []
 | i + 1 => (rowF t ab i).bind fun out => (guessF (bt t 0) (if i = 0 then 0 else out.getD (i - 1) 0) (ab.getD i 0) (if i = 0 then 0 else ab.getD (i - 1) 0)).map fun g => out ++ [(bt t ((i + 1 : Nat) : Int) + g) % 256]
theorem rowF_range {t : ByteArray} {ab : List Int} : ∀ {i : Nat} {out : List Int}, rowF t ab i = some out → out.length = i ∧ ∀ x ∈ out, 0 ≤ x ∧ x < 256 := by
 intro i
 induction i with
 | zero => intro out h; simp only [rowF, Option.some.injEq] at h; subst h; simp
 | succ i ih =>
  intro out h
  simp only [rowF] at h
  replace h := Option.bind_eq_some_iff.1 h
  obtain ⟨o, h1, h2⟩ := h
  replace h2 := Option.map_eq_some_iff.1 h2
  obtain ⟨g, h2, h3⟩ := h2
  obtain ⟨i1, i2⟩ := ih h1
  subst h3
  refine ⟨by simp [i1], fun x hx => ?_⟩
  rcases List.mem_append.1 hx with hx | hx
  ·exact i2 x hx
  ·rw [List.mem_singleton.1 hx]; omega
theorem rowF_none {t : ByteArray} {ab : List Int} {i : Nat} (h : rowF t ab i = none) : ∀ d, rowF t ab (i + d) = none := by
 intro d
 induction d with
 | zero => exact h
 | succ d ih => rw [← Nat.add_assoc, rowF, ih]; rfl
theorem getD_range {l : List Int} (h : ∀ x ∈ l, 0 ≤ x ∧ x < 256) (i : Nat) : 0 ≤ l.getD i 0 ∧ l.getD i 0 ≤ 255 := by
 rw [List.getD_eq_getElem?_getD]
 cases he : l[i]? with
 | none => simp
 | some x => have := h x (List.mem_of_getElem? he); simp; omega
def RowPost (r : Option (List Int)) (n : Nat) (w : World) (e : Ending) (w' : World) : Prop :=
 Below w.heap.size w w' ∧ ((r = none ∧ e = .returned (.tuple #[.slice none 0 0, .bool false])) ∨
  ∃ out g, r = some out ∧ e = .returned (.tuple #[.slice (some ⟨g, 0, none⟩) n n, .bool true]) ∧ Row w' w.heap.size 5 .u8 (.slice (some ⟨g, 0, none⟩) n n) out)
set_option maxRecDepth 100000 in
set_option maxHeartbeats 2000000 in
theorem prow_calls (t : ByteArray) (ab : List Int) (ga n ca B : Nat) (w : World) (hn : 1 ≤ n) (hn2 : n ≤ 256) (ht : t.size = n + 1) (hab : ab.length = n) (hra : ∀ x ∈ ab, 0 ≤ x ∧ x < 256)
  (hA : Row w B 5 .u8 (.slice (some ⟨ga, 0, none⟩) n ca) ab) :
  Calls Tryz.prog 42 #[.string t, .slice (some ⟨ga, 0, none⟩) n ca] w (RowPost (rowF t ab n) n w) := by
 have hga : ga < w.heap.size := (hA.lt ga rfl).2
 have ht0 : 0 < t.size := by omega
 have hx0 : (t[0].toNat : Int) = bt t 0 := (bt_nat t 0 ht0).symm
 have rk := bt_range t 0
 have kmk := print_make (P := Tryz.prog) 59 5 .u8 1 Tryz.underlying59 infoU8 (by decide) n (by omega)
 have HT := Aside0.mk ht
 have HAB := Aside0.mk hab
 have HRA := Aside0.mk hra
 have HA := Aside0.mk hA
 clear ht hab hra hA
 go_enter Tryz.func42, Tryz.ntmps42
 go_wp2_with fail
 have hbl := below_alloc (Below.refl w.heap.size w) (.cells (madeCells #[.int .u8 0] n) 5)
 obtain ⟨g, hg⟩ : ∃ g, g = w.heap.size := ⟨_, rfl⟩
 have bg : w.heap.size ≤ g := by omega
 have hR : Row (w.alloc (.cells (madeCells #[.int .u8 0] n) 5)) w.heap.size 5 .u8 (.slice (some ⟨g, 0, none⟩) n n) (List.replicate n 0) := by
  rw [hg]; exact Row.made w w.heap.size 5 .u8 n (Nat.le_refl _) (by omega)
 rw [← hg]
 generalize w.alloc (.cells (madeCells #[.int .u8 0] n) 5) = w0 at hR hbl ⊢
 clear hg
 obtain ⟨kd, hkd⟩ : ∃ kd, kd = bt t 0 := ⟨_, rfl⟩
 have HK := Aside0.mk hkd
 rw [← hkd] at hx0 rk ⊢
 clear hkd
 go_loopw [19] (fun v19 wr => ∃ (i : Nat) (out : List Int), i ≤ n ∧ v19 = .int .i64 i ∧ Aside0 (rowF t ab i = some out) ∧
  Aside0 (Row wr w.heap.size 5 .u8 (.slice (some ⟨g, 0, none⟩) n n) (out ++ List.replicate (n - i) 0)) ∧ Aside0 (Below w.heap.size w wr)) (fun v19 _ => n - (intOf v19).toNat)
 case atStart => exact ⟨0, [], by omega, rfl, ⟨rfl⟩, ⟨by simpa using hR⟩, ⟨hbl⟩⟩
 case round =>
  clear hR hbl
  obtain ⟨i, out, hi, rfl, HF, HR, HB⟩ := hrel
  obtain ⟨ho, hor⟩ := rowF_range HF.out
  by_cases hlt : i < n
  ·obtain ⟨c1, f1⟩ := HR.out.at_ i (by rw [List.length_append, List.length_replicate]; omega)
   have ca0 := HB.out.cell (p := ⟨ga, i, none⟩) hga
   rw [(HA.out.at_ i (by rw [HAB.out]; omega)).1] at ca0
   have ra := getD_range HRA.out i
   have hti : i + 1 < t.size := by rw [HT.out]; omega
   have hxi : (t[i + 1].toNat : Int) = bt t ((i + 1 : Nat) : Int) := (bt_nat t (i + 1) hti).symm
   have rxi := bt_range t ((i + 1 : Nat) : Int)
   obtain ⟨xu, hxu⟩ : ∃ xu, xu = ab.getD i 0 := ⟨_, rfl⟩
   obtain ⟨xo, hxo⟩ : ∃ xo, xo = (out ++ List.replicate (n - i) 0).getD i 0 := ⟨_, rfl⟩
   obtain ⟨xt, hxt⟩ : ∃ xt, xt = bt t ((i + 1 : Nat) : Int) := ⟨_, rfl⟩
   rw [← hxu] at ca0 ra
   rw [← hxo] at c1
   rw [← hxt] at hxi rxi
   have HXU := Aside0.mk hxu
   have HXT := Aside0.mk hxt
   clear hxu hxo hxt
   have hgw : g < wr.heap.size := (HR.out.lt g rfl).2
   have hgaw : ga < wr.heap.size := by have := HB.out.size; omega
   have hBw := HB.out.size
   have hX := blk_new wr (.cells #[.int .i64 0, .int .i64 xu, .int .i64 0] 71)
   have b1 := (World.cell?_alloc_lt wr (.cells #[.int .i64 0, .int .i64 xu, .int .i64 0] 71) ⟨g, i, none⟩ hgw).trans c1
   have hR1 := HR.out.alloc (.cells #[.int .i64 0, .int .i64 xu, .int .i64 0] 71)
   have hB1 := below_alloc HB.out (.cells #[.int .i64 0, .int .i64 xu, .int .i64 0] 71)
   obtain ⟨gx, hgx⟩ : ∃ gx, gx = wr.heap.size := ⟨_, rfl⟩
   have bgx : w.heap.size ≤ gx := by omega
   have nx1 : gx ≠ g := by omega
   have HROW : ∀ xl xc, (xl = if i = 0 then 0 else out.getD (i - 1) 0) → (xc = if i = 0 then 0 else ab.getD (i - 1) 0) → rowF t ab (i + 1) = (guessF kd xl xu xc).map fun g => out ++ [(xt + g) % 256] := by
    intro xl xc h1 h2
    rw [rowF, HF.out, Option.bind_some, h1, h2, HXU.out, HXT.out, HK.out]
   have HRW := Aside0.mk HROW
   clear HROW
   obtain ⟨xl, hxl⟩ : ∃ xl, xl = if i = 0 then 0 else out.getD (i - 1) 0 := ⟨_, rfl⟩
   obtain ⟨xc, hxc⟩ : ∃ xc, xc = if i = 0 then 0 else ab.getD (i - 1) 0 := ⟨_, rfl⟩
   have hrow := HRW.out xl xc hxl hxc
   have HROW := Aside0.mk hrow
   clear HRW hrow
   have hgx' := Aside0.mk hgx
   clear hgx
   by_cases h0 : i = 0
   ·rw [if_pos h0] at hxl hxc
    have hd : decide ((0 : Int) < (i : Int)) = false := decide_eq_false (by omega)
    have hd2 : decide (0 < i) = false := decide_eq_false (by omega)
    have r2 : 0 ≤ xl ∧ xl ≤ 255 := by omega
    have r1 : 0 ≤ xc ∧ xc ≤ 255 := by omega
    have hxl' := Aside0.mk hxl
    have hxc' := Aside0.mk hxc
    clear h0 hxl hxc
    go_upto_region 9 with (fail)
    rw [← hgx'.out] at hX ⊢
    have hX2 : (wr.alloc (.cells #[.int .i64 0, .int .i64 xu, .int .i64 0] 71)).heap[gx]? = some (.cells #[.int .i64 xl, .int .i64 xu, .int .i64 xc] 71 (0, 0)) := by rw [hxl'.out, hxc'.out]; exact hX
    clear hX hd hxl' hxc' c1 f1 ca0
    have hR2 := hR1
    have hB2 := hB1
    generalize wr.alloc (.cells #[.int .i64 0, .int .i64 xu, .int .i64 0] 71) = w2 at b1 hR1 hB1 hX2 hR2 hB2 ⊢
    clear hR1 hB1
    have x0 := blk_cell hX2 0
    have x1 := blk_cell hX2 1
    have x2 := blk_cell hX2 2
    have hBw2 := hB2.size
    cases hgs : guessF kd xl xu xc with
    | none =>
     have hrow := HROW.out
     rw [hgs] at hrow
     have hnn := rowF_none hrow (n - (i + 1))
     rw [show i + 1 + (n - (i + 1)) = n by omega] at hnn
     have HNN := Aside0.mk hnn
     have HGS := Aside0.mk hgs
     clear hrow hnn hgs
     go_wp2_with (first | (go_at_call 59; (with_reducible refine (guess_none kd xl xu xc _ rk r2 ra r1 HGS.out).mono ?_); rintro e w3 ⟨rfl, hb3⟩))
     go_ret2
     exact ⟨hB2.trans (hb3.mono hBw2), .inl ⟨HNN.out, rfl⟩⟩
    | some gq =>
     have hrow := HROW.out
     rw [hgs] at hrow
     have rgq := guess_range r2 ra r1 hgs
     have HGS := Aside0.mk hgs
     have HROW2 := Aside0.mk hrow
     clear hrow hgs
     go_wp2_with (first | (go_at_call 59; (with_reducible refine (guess_some kd xl xu xc gq _ rk r2 ra r1 HGS.out).mono ?_); rintro e w3 ⟨rfl, hb3⟩; have hR3 := hR2.below hb3; have hc3 := hR3.at_ i (by rw [List.length_append, List.length_replicate]; omega); obtain ⟨k3, k4⟩ := hc3))
     go_roundw
     case rel =>
      refine ⟨i + 1, out ++ [(xt + gq) % 256], by omega, by go_num, ⟨by rw [HROW2.out]; rfl⟩, ⟨?_⟩, ⟨(hB2.trans (hb3.mono hBw2)).setCell (p := ⟨g, i, none⟩) bg _⟩⟩
      have := hR3.store i ((xt + gq) % 256)
      have es : (out ++ List.replicate (n - i) 0).set i ((xt + gq) % 256) = out ++ [(xt + gq) % 256] ++ List.replicate (n - (i + 1)) 0 := by
       rw [List.set_append_right _ _ (by omega), ho, Nat.sub_self]
       obtain ⟨d, hd⟩ : ∃ d, n - i = d + 1 := ⟨n - i - 1, by omega⟩
       rw [hd, List.replicate_succ, List.set_cons_zero, show n - (i + 1) = d by omega, List.append_assoc]
       rfl
      rw [es] at this
      exact this
     case measure => simp [intOf]; omega
   ·rw [if_neg h0] at hxl hxc
    have hd : decide ((0 : Int) < (i : Int)) = true := decide_eq_true (by omega)
    have hd2 : decide (0 < i) = true := decide_eq_true (by omega)
    obtain ⟨j, hj⟩ : ∃ j : Nat, j = i - 1 := ⟨_, rfl⟩
    rw [← hj] at hxl hxc
    have d1 := (HR.out.at_ j (by rw [List.length_append, List.length_replicate]; omega)).1
    have d2 := HB.out.cell (p := ⟨ga, j, none⟩) hga
    rw [(HA.out.at_ j (by rw [HAB.out]; omega)).1] at d2
    have r1 := getD_range HRA.out j
    have r2 := getD_range hor j
    have ed : (out ++ List.replicate (n - i) 0).getD j 0 = out.getD j 0 := by
     rw [List.getD_eq_getElem?_getD, List.getElem?_append_left (by omega), ← List.getD_eq_getElem?_getD]
    rw [ed] at d1
    rw [← hxl] at d1 r2
    rw [← hxc] at d2 r1
    have q1 : IntKind.i64.wrap ((i : Int) - 1) = (j : Int) := by rw [show (i : Int) - 1 = j by omega]; exact IntWalk.i64_in _ (by omega)
    have j1 : j < n := by omega
    clear hxl hxc ed h0 hj
    go_upto_region 8 with (fail)
    have b2 := (World.cell?_alloc_lt wr (.cells #[.int .i64 0, .int .i64 xu, .int .i64 0] 71) ⟨g, j, none⟩ hgw).trans d1
    have b3 := (World.cell?_alloc_lt wr (.cells #[.int .i64 0, .int .i64 xu, .int .i64 0] 71) ⟨ga, j, none⟩ hgaw).trans d2
    rw [← hgx'.out] at hX ⊢
    generalize wr.alloc (.cells #[.int .i64 0, .int .i64 xu, .int .i64 0] 71) = w1 at hX b1 b2 b3 hR1 hB1 ⊢
    clear c1 f1 ca0 d1 d2
    have x0 := blk_cell hX 0
    have x1 := blk_cell hX 1
    have x2 := blk_cell hX 2
    have y0 := blk_frozen hX 0
    have y2 := blk_frozen hX 2
    have q2 : IntKind.i64.wrap (j : Int) = (j : Int) := IntWalk.i64_in _ (by omega)
    have q3 : IntKind.i64.wrap xl = xl := IntWalk.i64_in _ (by omega)
    have q4 : IntKind.i64.wrap xc = xc := IntWalk.i64_in _ (by omega)
    go_region
    have hX2 := blk_drew (blk_set (blk_set hX 0 (.int .i64 xl)) 2 (.int .i64 xc))
    have hR2 := (((hR1.set hX (by decide) 0 (.int .i64 xl)).set (blk_set hX 0 (.int .i64 xl)) (by decide) 2 (.int .i64 xc))).drew
    have hB2 := ((hB1.setCell (p := ⟨gx, 0, none⟩) bgx (.int .i64 xl)).setCell (p := ⟨gx, 2, none⟩) bgx (.int .i64 xc)).drew
    clear q1 q2 q3 q4 x0 x1 x2 y0 y2 b1 b2 b3
    generalize ((w1.setCell ⟨gx, 0, none⟩ (.int .i64 xl)).setCell ⟨gx, 2, none⟩ (.int .i64 xc)).drew = w2 at hX2 hR2 hB2 ⊢
    replace hX2 : w2.heap[gx]? = some (.cells #[.int .i64 xl, .int .i64 xu, .int .i64 xc] 71 (0, 0)) := hX2
    clear hX hR1 hB1
    have x0 := blk_cell hX2 0
    have x1 := blk_cell hX2 1
    have x2 := blk_cell hX2 2
    have hBw2 := hB2.size
    cases hgs : guessF kd xl xu xc with
    | none =>
     have hrow := HROW.out
     rw [hgs] at hrow
     have hnn := rowF_none hrow (n - (i + 1))
     rw [show i + 1 + (n - (i + 1)) = n by omega] at hnn
     have HNN := Aside0.mk hnn
     have HGS := Aside0.mk hgs
     clear hrow hnn hgs
     go_wp2_with (first | (go_at_call 59; (with_reducible refine (guess_none kd xl xu xc _ rk r2 ra r1 HGS.out).mono ?_); rintro e w3 ⟨rfl, hb3⟩))
     go_ret2
     exact ⟨hB2.trans (hb3.mono hBw2), .inl ⟨HNN.out, rfl⟩⟩
    | some gq =>
     have hrow := HROW.out
     rw [hgs] at hrow
     have rgq := guess_range r2 ra r1 hgs
     have HGS := Aside0.mk hgs
     have HROW2 := Aside0.mk hrow
     clear hrow hgs
     go_wp2_with (first | (go_at_call 59; (with_reducible refine (guess_some kd xl xu xc gq _ rk r2 ra r1 HGS.out).mono ?_); rintro e w3 ⟨rfl, hb3⟩; have hR3 := hR2.below hb3; have hc3 := hR3.at_ i (by rw [List.length_append, List.length_replicate]; omega); obtain ⟨k3, k4⟩ := hc3))
     go_roundw
     case rel =>
      refine ⟨i + 1, out ++ [(xt + gq) % 256], by omega, by go_num, ⟨by rw [HROW2.out]; rfl⟩, ⟨?_⟩, ⟨(hB2.trans (hb3.mono hBw2)).setCell (p := ⟨g, i, none⟩) bg _⟩⟩
      have := hR3.store i ((xt + gq) % 256)
      have es : (out ++ List.replicate (n - i) 0).set i ((xt + gq) % 256) = out ++ [(xt + gq) % 256] ++ List.replicate (n - (i + 1)) 0 := by
       rw [List.set_append_right _ _ (by omega), ho, Nat.sub_self]
       obtain ⟨d, hd⟩ : ∃ d, n - i = d + 1 := ⟨n - i - 1, by omega⟩
       rw [hd, List.replicate_succ, List.set_cons_zero, show n - (i + 1) = d by omega, List.append_assoc]
       rfl
      rw [es] at this
      exact this
     case measure => simp [intOf]; omega
  ·have hin : i = n := by omega
   subst hin
   have hR := HR.out
   simp only [Nat.sub_self, List.replicate_zero, List.append_nil] at hR
   go_wp2
   go_ret2
   exact ⟨HB.out, .inr ⟨out, g, HF.out, rfl, hR⟩⟩
end Go.Proofs.YtghoifkaikddlaaGreat.Hand
namespace Go.Proofs.YtghoifkaikddlaaGreat.Hand
open Go.RowKit Go.Proofs.YtghoifkaikddlaaGreatW.PrintWords Go.Proofs.YtghoifkaikddlaaGreatW.PrintLast Go.Proofs.YtghoifkaikddlaaGreatW.PrintMore Go.Proofs.YtghoifkaikddlaaGreat.Num
set_option linter.unusedVariables false
set_option linter.unusedSimpArgs false
theorem pmay_calls (c : Int) (w : World) : Calls Tryz.prog 36 #[.int .i64 c] w fun e w' => e = .returned (.bool (decide (1 ≤ c ∧ c ≤ 256))) ∧ Drawn0 w w' := by
 by_cases h1 : 1 ≤ c
 ·have d1 : decide (1 ≤ c) = true := decide_eq_true h1
  have e : decide (1 ≤ c ∧ c ≤ 256) = decide (c ≤ 256) := by rw [decide_eq_decide]; omega
  have HE := Aside0.mk e
  clear e
  go_enter Tryz.func36, Tryz.ntmps36
  go_wp2
  go_ret
  rw [HE.out]
  exact ⟨rfl, Drawn0.refl _⟩
 ·have d1 : decide (1 ≤ c) = false := decide_eq_false h1
  have e : decide (1 ≤ c ∧ c ≤ 256) = false := decide_eq_false (by omega)
  rw [e]
  clear e
  go_enter Tryz.func36, Tryz.ntmps36
  go_wp2
  go_ret
  exact ⟨rfl, Drawn0.refl _⟩
def pdecL : Nat → ByteArray → List Int → List Int → Nat → Option (ByteArray × Int)
 | 0, _, _, _, _ => none
 | k + 1, s, ab, out, n =>
  if s.size ≤ 1000000 ∧ out.length ≤ 1000000000000 then
   (if s.size = 0 then some (strOfNums out, 0)
   else if n + 1 ≤ s.size then (match rowF (s.extract 0 (n + 1)) ab n with
    | none => some (⟨#[]⟩, 4)
    | some b => pdecL k (s.extract (n + 1) s.size) b (out ++ b) n)
   else none)
  else none
def predict_Decode.f (k : Nat) (a0 : ByteArray) (a1 : Int) : Option (ByteArray × Int) :=
 if a0.size ≤ 1000000 then (if 1 ≤ a1 ∧ a1 ≤ 256 then (if (a0.size : Int) % (a1 + 1) = 0 then pdecL k a0 (List.replicate a1.toNat 0) [] a1.toNat else some (⟨#[]⟩, 4)) else some (⟨#[]⟩, 2)) else none
theorem pdecL_mono : ∀ (k : Nat) (s : ByteArray) (ab out : List Int) (n : Nat), LeO (pdecL k s ab out n) (pdecL (k + 1) s ab out n)
 | 0 => fun _ _ _ _ r h => by simp [pdecL] at h
 | k + 1 => by
  have ih := pdecL_mono k
  intro s ab out n
  rw [pdecL, pdecL]
  cases rowF (s.extract 0 (n + 1)) ab n with
  | none => exact LeO.refl _
  | some b =>
   simp only
   repeat' first
    | (with_reducible exact ih _ _ _ _)
    | (with_reducible exact LeO.refl _)
    | (with_reducible exact LeO.none _)
    | (with_reducible refine LeO.ite ?_ ?_)
theorem predict_Decode.mono : ∀ a0 a1 k, LeO (predict_Decode.f k a0 a1) (predict_Decode.f (k + 1) a0 a1) := by
 intro a0 a1 k
 unfold predict_Decode.f
 exact LeO.ite (LeO.ite (LeO.ite (pdecL_mono _ _ _ _ _) (LeO.refl _)) (LeO.refl _)) (LeO.refl _)
set_option maxRecDepth 100000 in
set_option maxHeartbeats 2000000 in
theorem predict_Decode.calls (k : Nat) (a0 : ByteArray) (a1 : Int) (r1 : ByteArray) (r2 : Int) (w : World) (h : predict_Decode.f k a0 a1 = some (r1, r2)) :
  Calls Tryz.prog 32 #[.string a0, .int .i64 a1] w fun e w' => e = .returned (.tuple #[.string r1, .int .i64 r2]) ∧ Below w.heap.size w w' := by
 unfold predict_Decode.f at h
 by_cases hs : a0.size ≤ 1000000
 ·rw [if_pos hs] at h
  by_cases hm : 1 ≤ a1 ∧ a1 ≤ 256
  ·rw [if_pos hm] at h
   obtain ⟨m1, m2⟩ := hm
   have hmay : decide (1 ≤ a1 ∧ a1 ≤ 256) = true := decide_eq_true ⟨m1, m2⟩
   have HM := Aside0.mk hmay
   by_cases hd : (a0.size : Int) % (a1 + 1) = 0
   ·rw [if_pos hd] at h
    obtain ⟨n, rfl⟩ := Int.eq_ofNat_of_zero_le (show 0 ≤ a1 by omega)
    rw [Int.toNat_natCast] at h
    have HR := Aside0.mk h
    have q1 : ((a0.size : Int) % ((n : Int) + 1) != 0) = false := bne_eq_false_iff_eq.2 hd
    have kmk := print_make (P := Tryz.prog) 59 5 .u8 1 Tryz.underlying59 infoU8 (by decide) n (by omega)
    clear h hmay hd
    go_enter Tryz.func32, Tryz.ntmps32
    go_wp2_with (first | (go_at_call 36; (with_reducible refine (pmay_calls (n : Int) _).mono ?_); rintro e w1 ⟨rfl, ⟨nd, rfl⟩⟩; rw [HM.out]))
    have hb0 : Below w.heap.size w ((w.drewN nd).alloc (.cells (madeCells #[.int .u8 0] n) 5)) := below_alloc (pw_below_drewN (Below.refl w.heap.size w) nd) (.cells (madeCells #[.int .u8 0] n) 5)
    have hR0 : Row ((w.drewN nd).alloc (.cells (madeCells #[.int .u8 0] n) 5)) w.heap.size 5 .u8 (.slice (some ⟨w.heap.size, 0, none⟩) n n) (List.replicate n 0) := Row.made (w.drewN nd) w.heap.size 5 .u8 n (Nat.le_refl _) (by omega)
    generalize (w.drewN nd).alloc (.cells (madeCells #[.int .u8 0] n) 5) = w0 at hb0 hR0 ⊢
    obtain ⟨g0, hg0⟩ : ∃ g, g = w.heap.size := ⟨_, rfl⟩
    have hR1 : Row w0 w.heap.size 5 .u8 (.slice (some ⟨g0, 0, none⟩) n n) (List.replicate n 0) := by rw [hg0]; exact hR0
    rw [← hg0]
    clear hR0 hg0
    go_loopg [0, 6, 7] k (fun kq v0 v6 v7 wr => ∃ (s : ByteArray) (ab out : List Int) (A : Option Addr) (m c ga ca : Nat), v0 = .string s ∧ v6 = .slice A m c ∧ v7 = .slice (some ⟨ga, 0, none⟩) n ca ∧
     Aside0 (pdecL kq s ab out n = some (r1, r2)) ∧ Aside0 (m = out.length) ∧ Aside0 (ab.length = n ∧ ∀ x ∈ ab, 0 ≤ x ∧ x < 256) ∧
     Aside0 (Row wr w.heap.size 5 .u8 (.slice A m c) out) ∧ Aside0 (Row wr w.heap.size 5 .u8 (.slice (some ⟨ga, 0, none⟩) n ca) ab) ∧ Aside0 (Below w.heap.size w wr))
    case atStart => exact ⟨a0, List.replicate n 0, [], none, 0, 0, g0, n, rfl, rfl, rfl, HR, ⟨rfl⟩, ⟨by rw [List.length_replicate], fun x hx => by rw [List.eq_of_mem_replicate hx]; omega⟩, ⟨Row.nil _ _ _ _⟩, ⟨hR1⟩, ⟨hb0⟩⟩
    case round =>
     clear HR hR1 hb0 kmk q1
     obtain ⟨s, ab, out, A, m, c, ga, ca, rfl, rfl, rfl, HA, HM2, HAB, HO, HG, HB⟩ := hrel
     cases gk with
     | zero => exact absurd HA.out (by simp [pdecL])
     | succ k1 =>
      have H := HA.out
      clear HA
      simp only [pdecL] at H
      by_cases hg : s.size ≤ 1000000 ∧ out.length ≤ 1000000000000
      ·rw [if_pos hg] at H
       obtain ⟨g1, g2⟩ := hg
       have hBw : w.heap.size ≤ wr.heap.size := HB.out.size
       by_cases hs0 : s.size = 0
       ·rw [if_pos hs0] at H
        simp only [Option.some.injEq, Prod.mk.injEq] at H
        obtain ⟨h1, rfl⟩ := H
        have H1 := Aside0.mk h1
        have t1 := toList_nil hs0
        have kq := HO.out.str (P := Tryz.prog) (src := 59) (dst := 9) Tryz.underlying59 Tryz.underlying5 Tryz.underlying9
        clear h1
        go_wp2
        go_ret2
        rw [← H1.out]
        exact ⟨rfl, HB.out⟩
       ·rw [if_neg hs0] at H
        have t1 := toList_some hs0
        by_cases hsn : n + 1 ≤ s.size
        ·rw [if_pos hsn] at H
         have ksl : ∀ W : World, (Instr.slice 9 (.string s) none (some (.int .i64 ((n : Int) + 1))) none).run Tryz.prog W = .ok (.string (s.extract 0 (n + 1))) W := fun W => by
          have := run_slice_string_h (P := Tryz.prog) W 9 s Tryz.underlying9 .i64 ((n : Int) + 1) (by omega) (by omega)
          rwa [show ((n : Int) + 1).toNat = n + 1 by omega] at this
         have hts : (s.extract 0 (n + 1)).size = n + 1 := by rw [ByteArray.size_extract]; omega
         have row := fun W hW => prow_calls (s.extract 0 (n + 1)) ab ga n ca w.heap.size W (by omega) (by omega) hts HAB.out.1 HAB.out.2 hW
         have HROW := Aside0.mk row
         clear row hts
         generalize s.extract 0 (n + 1) = t at *
         cases hrf : rowF t ab n with
         | none =>
          rw [hrf] at H
          simp only [Option.some.injEq, Prod.mk.injEq] at H
          obtain ⟨rfl, rfl⟩ := H
          have HRF := Aside0.mk hrf
          clear hrf
          go_wp2_with (first | (go_at_call 42; (with_reducible refine (HROW.out _ HG.out).mono ?_); rintro e w1 ⟨hb1, ⟨_, rfl⟩ | ⟨o1, g1', hbad, _, _⟩⟩; rotate_left; exact absurd (HRF.out.symm.trans hbad) (by simp)))
          go_ret2
          exact ⟨rfl, HB.out.trans (hb1.mono hBw)⟩
         | some b =>
          rw [hrf] at H
          simp only at H
          obtain ⟨l1, l2⟩ := rowF_range hrf
          have HH := Aside0.mk H
          have HRF := Aside0.mk hrf
          clear hrf H
          go_wp2_with (first | (go_at_call 42; (with_reducible refine (HROW.out _ HG.out).mono ?_); rintro e w1 ⟨hb1, ⟨hbad, _⟩ | ⟨o1, gb, ho1, rfl, hrb⟩⟩; exact absurd (HRF.out.symm.trans hbad) (by simp)))
          have eo : o1 = b := by have := HRF.out.symm.trans ho1; injection this with this; exact this.symm
          subst eo
          have hO1 := HO.out.below hb1
          have hB1 : w.heap.size ≤ w1.heap.size := by have := hb1.size; omega
          have hbl1 : Below w.heap.size w w1 := HB.out.trans (hb1.mono hBw)
          obtain ⟨Ab, cb, hvb, hrdb⟩ := hrb.reads
          injection hvb with hvb1 hvb2 hvb3
          subst hvb1
          obtain ⟨ad, had, hnews⟩ := news_reads hrdb (by omega)
          injection had with had
          subst had
          have hne : ∀ i, (Value.slice (some ⟨gb, 0, none⟩) n n).ownBlock = some i → ¬ ((Value.slice A m c).ownBlock = some i) := by
           intro i hi hi2
           have a1 := (HO.out.lt i hi2).2
           have a2 := (hrb.lt i hi).1
           omega
          have hl1 : out.length + n ≤ maxLen := by unfold maxLen; omega
          have hl2 : (out.length + n) * 1 ≤ 140737488355328 := by omega
          have HNW := Aside0.mk hnews
          have HVB := Aside0.mk hvb2
          have HRB := Aside0.mk hrb
          have HNE := Aside0.mk hne
          have ksl2 : ∀ W : World, (Instr.slice 9 (.string s) (some (.int .i64 ((n : Int) + 1))) none none).run Tryz.prog W = .ok (.string (s.extract (n + 1) s.size)) W := fun W => by
           have := run_slice_string_l (P := Tryz.prog) W 9 s Tryz.underlying9 .i64 ((n : Int) + 1) (by omega) (by omega)
           rwa [show ((n : Int) + 1).toNat = n + 1 by omega] at this
          have q9 : IntKind.i64.wrap ((n : Int) + 1) = (n : Int) + 1 := IntWalk.i64_in _ (by omega)
          clear HO HG HB hb1 hrb hrdb hnews hne ho1 hvb2 hvb3 ksl
          go_region_held3 (fun _ => True) (first | trivial) ((refine app_step w.heap.size rfl _ _ 59 5 .u8 1 rfl Tryz.underlying59 infoU8 (.slice A m c) out o1 rfl ⟨gb, 0, none⟩ n n rfl l1 HNW.out hO1.drew hB1 hl1 hl2 ?_; intro v3 w3 hap; obtain ⟨A3, n3, m3, hv3, hn3⟩ := hap.row.shape; subst hv3))
          all_goals
           have hrb3 := (HRB.out.drew.fr (Fr.of_grown hap.grown) HNE.out).lower (show w.heap.size ≤ wr.heap.size by omega)
           have hb3 := hbl1.drew.trans (hap.below hO1.drew hB1)
           have hr3 := hap.row
           clear hap
           go_wp2
           go_roundg k1
           case measure => omega
           case rel => exact ⟨_, o1, _, A3, n3, m3, gb, n, rfl, rfl, rfl, HH, hn3, ⟨l1, l2⟩, ⟨hr3⟩, ⟨hrb3⟩, ⟨hb3⟩⟩
        ·rw [if_neg hsn] at H
         cases H
      ·rw [if_neg hg] at H
       cases H
   ·rw [if_neg hd] at h
    simp only [Option.some.injEq, Prod.mk.injEq] at h
    obtain ⟨rfl, rfl⟩ := h
    have q1 : ((a0.size : Int) % (a1 + 1) != 0) = true := bne_iff_ne.2 hd
    clear hmay hd
    go_enter Tryz.func32, Tryz.ntmps32
    go_wp2_with (first | (go_at_call 36; (with_reducible refine (pmay_calls a1 _).mono ?_); rintro e w1 ⟨rfl, ⟨nd, rfl⟩⟩; rw [HM.out]))
    go_ret2
    exact ⟨rfl, pw_below_drewN (Below.refl _ _) _⟩
  ·rw [if_neg hm] at h
   simp only [Option.some.injEq, Prod.mk.injEq] at h
   obtain ⟨rfl, rfl⟩ := h
   have hmay : decide (1 ≤ a1 ∧ a1 ≤ 256) = false := decide_eq_false hm
   have HM := Aside0.mk hmay
   clear hmay hm
   go_enter Tryz.func32, Tryz.ntmps32
   go_wp2_with (first | (go_at_call 36; (with_reducible refine (pmay_calls a1 _).mono ?_); rintro e w1 ⟨rfl, ⟨nd, rfl⟩⟩; rw [HM.out]))
   go_ret2
   exact ⟨rfl, pw_below_drewN (Below.refl _ _) _⟩
 ·rw [if_neg hs] at h
  cases h
end Go.Proofs.YtghoifkaikddlaaGreat.Hand
namespace Go.Proofs.YtghoifkaikddlaaGreat.Hand
open Go.RowKit Go.Proofs.YtghoifkaikddlaaGreatW.PrintWords Go.Proofs.YtghoifkaikddlaaGreatW.PrintLast Go.Proofs.YtghoifkaikddlaaGreatW.PrintMore Go.Proofs.YtghoifkaikddlaaGreat.Num
set_option linter.unusedVariables false
set_option linter.unusedSimpArgs false
def aboveB (s : ByteArray) (n i : Nat) : Int := if n ≤ i then bt s ((i - n : Nat) : Int) else 0
def pencTo (s : ByteArray) (n : Nat) : Nat → List Int
 | 0 => []
 | i + 1 => (if i % n = 0 then pencTo s n i ++ [2] else pencTo s n i) ++ [(bt s i - aboveB s n i) % 256]
theorem pencTo_length (s : ByteArray) (n : Nat) (i : Nat) : (pencTo s n i).length ≤ 2 * i := by
 induction i with
 | zero => simp [pencTo]
 | succ i ih => rw [pencTo]; split <;> simp <;> omega
end Go.Proofs.YtghoifkaikddlaaGreat.Hand
