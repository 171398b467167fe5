/- Codes: a symbol is read; walked by hand. -/
import Derived.Test.YtcphjcggnblnkaaHand09w
import Derived.Handy
import Derived.WalkMore
namespace Go.Proofs.Ytcphjcggnblnkaa.Hand
open Go.RowKit Go.Proofs.YtcphjcggnblnkaaW.PrintWords Go.Proofs.YtcphjcggnblnkaaW.PrintLast Go.Proofs.YtcphjcggnblnkaaW.PrintMore Go.Proofs.Ytcphjcggnblnkaa.Num Go.Proofs.Ytcphjcggnblnkaa.Bits
set_option linter.unusedVariables false
set_option linter.unusedSimpArgs false
/-- The symbol of bits from a place on: symbol, error, place behind. -/
def rdT (s : ByteArray) (many syms : List Int) (lg : Nat) : Nat → Nat → Int → Int → Int → Nat → Int × Int × Nat
  | 0, _, _, _, _, p => (0, 4, p)
  | d + 1, n, code, first, at_, p =>
    if n ≤ lg then
      if p + 1 ≤ 8 * s.size then
        if many.getD n 0 ≤ 2 * code + val s p 1 - first * 2 then rdT s many syms lg d (n + 1) (2 * code + val s p 1) (first * 2 + many.getD n 0) (at_ + many.getD n 0) (p + 1)
        else (syms.getD (at_ + (2 * code + val s p 1) - first * 2).toNat 0, 0, p + 1)
      else (0, 5, p)
    else (0, 4, p)
/-- How many codes are shorter than so many bits. -/
def sumM (many : List Int) : Nat → Int
  | 0 => 0
  | 1 => 0
  | n + 2 => sumM many (n + 1) + many.getD (n + 1) 0
theorem sumM_succ (many : List Int) (n : Nat) (h : 1 ≤ n) : sumM many (n + 1) = sumM many n + many.getD n 0 := by
  obtain ⟨m, rfl⟩ : ∃ m, n = m + 1 := ⟨n - 1, by omega⟩
  rfl
theorem TreeAt.neR {w : World} {B tb g : Nat} {ls cs many syms : List Int} {lg : Int} {s : ByteArray} {p : Nat} (hT : TreeAt w B tb ls cs many syms lg) (hR : RdAt w g s p) : tb ≠ g := by
  obtain ⟨vl, vc, vs, hb, _⟩ := hT.open_
  obtain ⟨x, m, a, q1, _⟩ := hR.open_
  rintro rfl
  rw [hb] at q1; injection q1 with q1; injection q1 with _ q1; exact absurd q1 (by decide)
theorem TreeAt.rowR {w : World} {B g : Nat} {v : Value} {xs : List Int} {s : ByteArray} {p : Nat} (h : Row w B 3 .i64 v xs) (hR : RdAt w g s p) : ∀ j, v.ownBlock = some j → j ≠ g := by
  obtain ⟨x, m, a, q1, _⟩ := hR.open_
  exact h.ne_blk q1 (by decide)
/-- A tree outlasts what a reader does. -/
theorem TreeAt.frR {w w1 : World} {B tb g : Nat} {ls cs many syms : List Int} {lg : Int} {s : ByteArray} {p : Nat} (hT : TreeAt w B tb ls cs many syms lg) (hR : RdAt w g s p) (hf : Fr w w1 (· = g)) : TreeAt w1 B tb ls cs many syms lg := by
  have hne := hT.neR hR
  obtain ⟨⟨vl, vc, vs, hb, h1, h2, h3⟩, hm⟩ := hT
  exact ⟨⟨vl, vc, vs, hf.blk hb hne, h1.fr hf (TreeAt.rowR h1 hR), h2.fr hf (TreeAt.rowR h2 hR), h3.fr hf (TreeAt.rowR h3 hR)⟩, hm⟩
/-- What is read of a tree's cells. -/
theorem TreeAt.cells {w : World} {B tb : Nat} {ls cs many syms : List Int} {lg : Int} (hT : TreeAt w B tb ls cs many syms lg) : w.cell? ⟨tb, 19, none⟩ = some (.int .i64 lg) ∧ (∀ n, n < 16 → w.cell? ⟨tb, 2 + n, none⟩ = some (.int .i64 (many.getD n 0))) ∧
    ∃ A c, w.cell? ⟨tb, 18, none⟩ = some (.slice A syms.length c) ∧ ReadsInt w .i64 A syms.length syms := by
  obtain ⟨⟨vl, vc, vs, hb, h1, h2, h3⟩, hm⟩ := hT
  have hl : (nums .i64 many).length = 16 := by rw [nums_length]; exact hm
  obtain ⟨A3, k3, rfl, hrd⟩ := h3.reads
  refine ⟨(blk_cell hb 19).trans ?_, fun n hn => (blk_cell hb (2 + n)).trans ?_, A3, k3, (blk_cell hb 18).trans ?_, hrd⟩
  · simp [List.getElem?_append, hl]
  · have h := nums_at many n (by omega)
    rw [show 2 + n = n + 2 by omega]
    simp only [List.getElem?_toArray, List.getElem?_cons_succ] at h ⊢
    rw [List.getElem?_append_left (by omega)]
    exact h
  · simp [List.getElem?_append, hl]
set_option maxRecDepth 100000 in
set_option maxHeartbeats 4000000 in
theorem read_calls (w : World) (B tb g : Nat) (ls cs many syms : List Int) (lg : Nat) (s : ByteArray) (p : Nat) (hT : TreeAt w B tb ls cs many syms lg) (hR : RdAt w g s p) (hs : s.size ≤ 1000000) (hlg : lg ≤ 15)
    (hm : ∀ x ∈ many, 0 ≤ x ∧ x ≤ 320) (hS : ∀ n, n ≤ lg → sumM many (n + 1) ≤ syms.length) (hS2 : syms.length ≤ 320) :
    Calls Try.prog 35 #[.pointer (some ⟨tb, 0, none⟩), .pointer (some ⟨g, 0, none⟩)] w fun e w' =>
      e = .returned (.tuple #[.int .i64 (rdT s many syms lg 16 1 0 0 0 p).1, .int .i64 (rdT s many syms lg 16 1 0 0 0 p).2.1]) ∧ RdAt w' g s (rdT s many syms lg 16 1 0 0 0 p).2.2 ∧ Fr w w' (· = g) := by
  obtain ⟨res, hres⟩ : ∃ res, res = rdT s many syms lg 16 1 0 0 0 p := ⟨_, rfl⟩
  rw [← hres]
  have H0 : Aside0 (_ ∧ _ ∧ _ ∧ _) := ⟨hT, hR, hm, hS⟩
  have HE := Aside0.mk hres
  have hml := hT.ml
  clear hT hR hm hS hres
  go_enter Try.func35, Try.ntmps35
  go_wp2_with fail
  refine wp_scope_straight ?_
  go_wp2_with fail
  refine wp_label ?_
  go_wp2_with fail
  go_loopw [6, 7, 8, 9] (fun v6 v7 v8 v9 wr => ∃ (n q d : Nat) (code first at_ : Int), v6 = .int .i64 code ∧ v7 = .int .i64 first ∧ v8 = .int .i64 at_ ∧ v9 = .int .i64 n ∧ 1 ≤ n ∧ n ≤ lg + 1 ∧ d + n = 17 ∧ 0 ≤ first ∧ first ≤ code ∧ Aside0 (code + 1 ≤ 2 ^ n) ∧ Aside0 (at_ = sumM many n) ∧ 0 ≤ at_ ∧ at_ ≤ 320 ∧
    Aside0 (res = rdT s many syms lg d n code first at_ q ∧ RdAt wr g s q ∧ Fr w wr (· = g))) (fun _ _ _ v9 _ => 17 - (intOf v9).toNat)
  case atStart => exact ⟨1, p, 16, 0, 0, 0, rfl, rfl, rfl, rfl, by omega, by omega, by omega, by omega, by omega, ⟨by decide⟩, ⟨rfl⟩, by omega, by omega, ⟨HE.out, H0.out.2.1, Fr.refl _ _⟩⟩
  case round =>
    obtain ⟨n, q, d, code, first, at_, rfl, rfl, rfl, rfl, hn1, hn2, hd, hf0, hfc, HC, HA, ha0, ha1, HR⟩ := hrel
    obtain ⟨d', rfl⟩ : ∃ d', d = d' + 1 := ⟨d - 1, by omega⟩
    have hTr := H0.out.1.frR H0.out.2.1 HR.out.2.2
    obtain ⟨c19, cm, A3, k3, c18, hrd⟩ := hTr.cells
    have hrec := HR.out.1
    rw [rdT] at hrec
    by_cases hlt : n ≤ lg
    · have q1 : decide ((n : Int) ≤ (lg : Int)) = true := decide_eq_true (by omega)
      have q1n : decide (n ≤ lg) = true := decide_eq_true hlt
      rw [if_pos hlt] at hrec
      by_cases hp : q + 1 ≤ 8 * s.size
      · rw [if_pos hp] at hrec
        have HG := rd_get wr g s q 1 HR.out.2.1 (by omega) (by omega) hp
        have hv := val_range s q 1
        rw [show ((1 : Nat) : Int) = 1 from rfl] at HG
        have HGG := Aside0.mk HG
        obtain ⟨b, hb⟩ : ∃ b, b = val s q 1 := ⟨_, rfl⟩
        rw [← hb] at HGG hrec hv
        have hv2 : 0 ≤ b ∧ b ≤ 1 := by have := hv.1; have h2 := hv.2; simp at h2; omega
        have HREC := Aside0.mk hrec
        have HTR := Aside0.mk hTr
        have hM := getD_rng9 H0.out.2.2.1 n (by omega)
        have hMS : at_ + many.getD n 0 ≤ 320 ∧ at_ + many.getD n 0 ≤ syms.length := by
          have h := H0.out.2.2.2 n hlt
          rw [sumM_succ many n hn1, ← HA.out] at h
          omega
        have hC := HC.out
        have hp2 : (2 : Int) ^ n ≤ 2 ^ 15 := pow_le (by omega)
        have hcs : code ≤ 32768 := by omega
        obtain ⟨M, hMe⟩ : ∃ M, M = many.getD n 0 := ⟨_, rfl⟩
        rw [← hMe] at hM hMS HREC
        have HME := Aside0.mk hMe
        clear cm c18 hrd hrec hTr hv hb HG hC hp2 hMe
        go_wp2_with fail
        refine HGG.out.mono ?_
        rintro e w2 ⟨rfl, hr2, hf2⟩
        have HR2 : Aside0 (_ ∧ _) := ⟨hr2, HR.out.2.2.then_ hf2⟩
        have hTr2 := H0.out.1.frR H0.out.2.1 HR2.out.2
        obtain ⟨_, cm, A3, k3, c18, hrd⟩ := hTr2.cells
        have d1 := cm n (by omega)
        rw [← HME.out] at d1
        clear hr2 hf2 cm c19 hTr2 HGG
        by_cases hge : M ≤ 2 * code + b - first * 2
        · have q2 : decide (M ≤ 2 * code + b - first * 2) = true := decide_eq_true hge
          have HREC2 := HREC.out
          rw [if_pos hge] at HREC2
          have HRC := Aside0.mk HREC2
          clear hrd c18 HREC2 HREC
          go_wp2_with fail
          go_roundw
          case rel =>
            refine ⟨n + 1, q + 1, d', 2 * code + b, first * 2 + M, at_ + M, rfl, rfl, rfl, by go_num, by omega, by omega, by omega, by omega, by omega, ⟨?_⟩, ⟨?_⟩, by omega, by omega, ⟨HRC.out, HR2.out.1, HR2.out.2⟩⟩
            · have := HC.out; rw [Int.pow_succ']; omega
            · rw [sumM_succ many n hn1, ← HA.out, HME.out]
          case measure => simp [intOf]; omega
        · have q2 : decide (M ≤ 2 * code + b - first * 2) = false := decide_eq_false hge
          have HREC2 := HREC.out
          rw [if_neg hge] at HREC2
          obtain ⟨ix, hix⟩ := Int.eq_ofNat_of_zero_le (show 0 ≤ at_ + (2 * code + b) - first * 2 by omega)
          rw [hix, Int.toNat_natCast] at HREC2
          obtain ⟨ad, rfl, hcell⟩ := ReadsInt.at_ hrd (ix : Int) (by omega) (by omega)
          rw [Int.toNat_natCast, rd, Int.toNat_natCast] at hcell
          obtain ⟨y, hy⟩ : ∃ y, y = syms.getD ix 0 := ⟨_, rfl⟩
          rw [← hy] at hcell HREC2
          have HRC := Aside0.mk HREC2
          have hixl : ix < syms.length := by omega
          clear hrd HREC2 HREC hy
          go_wp2_with fail
          repeat (rw [Exit.noGoto_ret])
          go_returns
          exact ⟨by rw [HRC.out]; rfl, by rw [HRC.out]; exact HR2.out.1, HR2.out.2⟩
      · rw [if_neg hp] at hrec
        have HG := rd_get_short wr g s q 1 HR.out.2.1 (by omega) (by omega) (by omega)
        rw [show ((1 : Nat) : Int) = 1 from rfl] at HG
        have HGG := Aside0.mk HG
        clear HG cm c18 hrd hTr
        go_wp2_with fail
        refine HGG.out.mono ?_
        rintro e w2 ⟨rfl, hd2⟩
        go_wp2_with fail
        repeat (rw [Exit.noGoto_ret])
        go_returns
        exact ⟨by rw [hrec]; rfl, by rw [hrec]; exact HR.out.2.1.drawn hd2, HR.out.2.2.then_ (Fr.of_drawn hd2 _)⟩
    · have q1 : decide ((n : Int) ≤ (lg : Int)) = false := decide_eq_false (by omega)
      have q1n : decide (n ≤ lg) = false := decide_eq_false hlt
      rw [if_neg hlt] at hrec
      go_wp2_with fail
      repeat (rw [Exit.noGoto_ret])
      go_returns
      exact ⟨by rw [hrec]; rfl, by rw [hrec]; exact HR.out.2.1, HR.out.2.2⟩
theorem read_nil1 (w : World) (p : Option Addr) :
    Calls Try.prog 35 #[.pointer none, .pointer p] w fun e w' => e = .returned (.tuple #[.int .i64 0, .int .i64 1]) ∧ w = w' := by
  go_enter Try.func35, Try.ntmps35
  go_wp2_with fail
  refine wp_scope_straight ?_
  go_wp2_with fail
  repeat (rw [Exit.noGoto_ret])
  go_returns
  exact ⟨rfl, rfl⟩
theorem read_nil2 (w : World) (a : Addr) :
    Calls Try.prog 35 #[.pointer (some a), .pointer none] w fun e w' => e = .returned (.tuple #[.int .i64 0, .int .i64 1]) ∧ w = w' := by
  go_enter Try.func35, Try.ntmps35
  go_wp2_with fail
  refine wp_scope_straight ?_
  go_wp2_with fail
  repeat (rw [Exit.noGoto_ret])
  go_returns
  exact ⟨rfl, rfl⟩
end Go.Proofs.Ytcphjcggnblnkaa.Hand
