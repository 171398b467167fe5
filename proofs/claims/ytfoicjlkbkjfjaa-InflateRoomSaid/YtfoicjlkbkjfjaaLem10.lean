/- Inflate: the page's examples; what the laws ask of inflF. -/
import Derived.Test.YtfoicjlkbkjfjaaHand10m
namespace Go.Proofs.Ytfoicjlkbkjfjaa.Hand
open Go.RowKit Go.Proofs.YtfoicjlkbkjfjaaW.PrintWords Go.Proofs.YtfoicjlkbkjfjaaW.PrintLast Go.Proofs.YtfoicjlkbkjfjaaW.PrintMore Go.Proofs.Ytfoicjlkbkjfjaa.Num Go.Proofs.Ytfoicjlkbkjfjaa.Bits
set_option linter.unusedVariables false
set_option linter.unusedSimpArgs false
set_option maxRecDepth 100000
theorem blk1 : inflF ⟨#[1, 1, 0, 254, 255, 97, 122]⟩ 1 = (⟨#[97]⟩, 6, 0) := by decide +kernel
theorem blk2 : inflF ⟨#[75, 4, 0]⟩ 1 = (⟨#[97]⟩, 3, 0) := by decide +kernel
theorem blk3 : inflF ⟨#[75, 4]⟩ 1 = (⟨#[]⟩, 0, 5) := by decide +kernel
theorem blk4 : inflF ⟨#[7]⟩ 1 = (⟨#[]⟩, 0, 4) := by decide +kernel
theorem blk5 : inflF ⟨#[75, 4, 0]⟩ 0 = (⟨#[]⟩, 0, 7) := by decide +kernel
theorem NZ.inf : ∀ k, NZ (infM k)
  | 0 => NZ.err _ (by decide)
  | k + 1 => NZ.block.bind fun _ => NZ.ite (NZ.ret _) (NZ.inf k)
theorem block_adv {s : ByteArray} {m : Int} {p p2 : Nat} {o o2 : List Int} {last : Int} (hh : blockM s m p o = .ok last p2 o2) : p + 1 ≤ p2 := by
  unfold blockM at hh
  by_cases h1 : p + 1 ≤ 8 * s.size
  · rw [bind_ok (get_ok h1)] at hh
    have hG : Good ((getM 2).bind fun kind => (kindM kind).bind fun _ => RM.ret (val s p 1)) := (Good.get _).bind fun _ => (Good.kind _).bind fun _ => Good.ret _
    exact (hG.mono h1 hh).1
  · rw [bind_bad (get_bad h1)] at hh; cases hh
theorem inf_adv {s : ByteArray} {m : Int} {p q : Nat} {o r : List Int} {k : Nat} (hp : p ≤ 8 * s.size) (h : infM k s m p o = .ok () q r) : p + 1 ≤ q := by
  cases k with
  | zero => cases h
  | succ k =>
    rw [infM] at h
    cases hh : blockM s m p o with
    | bad c => rw [bind_bad hh] at h; cases h
    | ok last p2 o2 =>
      rw [bind_ok hh] at h
      have h1 := block_adv hh
      have h2 := Good.block.mono hp hh
      have hG : Good (if last = 1 then RM.ret () else infM k) := Good.ite (Good.ret _) (Good.inf k)
      have h3 := hG.mono h2.2.1 h
      omega
/-- What Inflate answers: an error and nothing, or what was told. -/
theorem inflF_cases (s : ByteArray) (m : Int) (hm : 0 ≤ m) : (∃ e, e ≠ 0 ∧ infM bigK s m 0 [] = .bad e ∧ inflF s m = (⟨#[]⟩, 0, e)) ∨ (∃ p o, infM bigK s m 0 [] = .ok () p o ∧ inflF s m = (strOfNums o, (rdAt p : Int), 0) ∧ 1 ≤ p ∧ p ≤ 8 * s.size ∧ (o.length : Int) ≤ m) := by
  cases h : infM bigK s m 0 [] with
  | bad e => exact .inl ⟨e, (NZ.inf _).nz h, rfl, by unfold inflF; rw [if_neg (by omega), h]⟩
  | ok u p o =>
    have h1 := inf_adv (Nat.zero_le _) h
    have h2 := (Good.inf bigK).mono (Nat.zero_le _) h
    have h3 := ((Good.inf bigK).room m (Nat.zero_le _) h (by simpa using hm) (by simpa using hm)).1
    exact .inr ⟨p, o, rfl, by unfold inflF; rw [if_neg (by omega), h], by omega, h2.2.1, h3⟩
theorem agree_cut (s : ByteArray) (c : Nat) (hc : c ≤ s.size) : Agree s (s.extract 0 c) := by
  have hz : (s.extract 0 c).size = c := by rw [ByteArray.size_extract]; omega
  intro i h1 h2
  unfold bitA
  have := bt_extract s 0 c (i / 8) (by omega) (by omega)
  rw [Nat.zero_add] at this
  rw [this]
theorem agree_more (t more : ByteArray) : Agree t (t ++ more) := by
  intro i h1 h2
  unfold bitA
  rw [bt_cat_left _ _ _ (by rw [Int.toNat_natCast]; omega)]
/-- What is cut off ahead of its end is too short. -/
theorem inflF_short {s : ByteArray} {m : Int} {p c : Nat} {o : List Int} (hm : 0 ≤ m) (h : infM bigK s m 0 [] = .ok () p o) (hc : 8 * c < p) (hs : c ≤ s.size) : inflF (s.extract 0 c) m = (⟨#[]⟩, 0, 5) := by
  have hz : (s.extract 0 c).size = c := by rw [ByteArray.size_extract]; omega
  have := (Good.inf bigK).cut (s.extract 0 c) (Nat.zero_le _) h (agree_cut s c hs) (Nat.zero_le _)
  rw [hz, if_neg (by omega)] at this
  unfold inflF
  rw [if_neg (by omega), this]
/-- What stands behind its end turns nothing. -/
theorem inflF_more {s : ByteArray} {m : Int} {p n : Nat} {o : List Int} (more : ByteArray) (hm : 0 ≤ m) (h : infM bigK s m 0 [] = .ok () p o) (hn : p ≤ 8 * n) (hs : n ≤ s.size) : inflF (s.extract 0 n ++ more) m = (strOfNums o, (rdAt p : Int), 0) := by
  have hz : (s.extract 0 n).size = n := by rw [ByteArray.size_extract]; omega
  have h1 := (Good.inf bigK).cut (s.extract 0 n) (Nat.zero_le _) h (agree_cut s n hs) (Nat.zero_le _)
  rw [hz, if_pos hn] at h1
  have h2 := (Good.inf bigK).cut (s.extract 0 n ++ more) (Nat.zero_le _) h1 (agree_more _ more) (Nat.zero_le _)
  rw [ByteArray.size_append, hz, if_pos (by omega)] at h2
  unfold inflF
  rw [if_neg (by omega), h2]
/-- With other room: the same, or too big. -/
theorem inflF_room {s : ByteArray} {m : Int} {p : Nat} {o : List Int} (m' : Int) (hm : 0 ≤ m) (h : infM bigK s m 0 [] = .ok () p o) (hm' : 0 ≤ m') : inflF s m' = if (o.length : Int) ≤ m' then (strOfNums o, (rdAt p : Int), 0) else (⟨#[]⟩, 0, 7) := by
  have h1 := ((Good.inf bigK).room m' (Nat.zero_le _) h (by simpa using hm) (by simpa using hm')).2
  unfold inflF
  rw [if_neg (by omega), h1]
  by_cases hh : (o.length : Int) ≤ m'
  · rw [if_pos hh, if_pos hh]
  · rw [if_neg hh, if_neg hh]
end Go.Proofs.Ytfoicjlkbkjfjaa.Hand
