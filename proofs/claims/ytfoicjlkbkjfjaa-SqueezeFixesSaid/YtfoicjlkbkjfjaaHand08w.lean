/- The contracts of bitrow.Writer: what is put stands behind what was put. -/
import Derived.Test.YtfoicjlkbkjfjaaHand08
namespace Go.Proofs.Ytfoicjlkbkjfjaa.Hand
open Go.RowKit Go.Proofs.YtfoicjlkbkjfjaaW.PrintWords Go.Proofs.YtfoicjlkbkjfjaaW.PrintLast Go.Proofs.YtfoicjlkbkjfjaaW.PrintMore Go.Proofs.Ytfoicjlkbkjfjaa.Num Go.Proofs.Ytfoicjlkbkjfjaa.Bits
set_option linter.unusedVariables false
set_option linter.unusedSimpArgs false

/-- A writer lies at the head of a block: what it holds are these bits. -/
structure WrAt (w : World) (B g : Nat) (t : TypeId) (post : List Value) (L : List Int) : Prop where
  open_ : ∃ (x : Int) (m : Nat) (v : Value) (xs : List Int), w.heap[g]? = some (.cells (.int .i64 x :: .int .i64 (m : Int) :: v :: post).toArray t (0, 0)) ∧ Row w B 5 .u8 v xs ∧ Held L xs x m
theorem WrAt.drawn {w w' : World} {B g : Nat} {t : TypeId} {post : List Value} {L : List Int} (h : WrAt w B g t post L) (hd : Drawn0 w w') : WrAt w' B g t post L := by
  obtain ⟨n, rfl⟩ := hd.out; exact ⟨h.open_⟩
theorem WrAt.below {w w' : World} {B g : Nat} {t : TypeId} {post : List Value} {L : List Int} (h : WrAt w B g t post L) (hb : Below w.heap.size w w') : WrAt w' B g t post L := by
  obtain ⟨x, m, v, xs, h1, h2, h3⟩ := h.open_
  exact ⟨x, m, v, xs, blk_below h1 hb, h2.below hb, h3⟩
theorem WrAt.fr {w w' : World} {B g : Nat} {t : TypeId} {post : List Value} {L : List Int} {S : Nat → Prop} (h : WrAt w B g t post L) (hf : Fr w w' S) (hg : ¬ S g) (hu : ∀ k, U8 w k → ¬ S k) : WrAt w' B g t post L := by
  obtain ⟨x, m, v, xs, h1, h2, h3⟩ := h.open_
  exact ⟨x, m, v, xs, hf.blk h1 hg, h2.fr hf (fun k hk => hu k (by obtain ⟨cs, hc⟩ := h2.blk k hk; exact ⟨cs, (0, 0), hc⟩)), h3⟩
theorem row_u8 {w : World} {B : Nat} {v : Value} {xs : List Int} (h : Row w B 5 .u8 v xs) : ∀ k, v.ownBlock = some k → U8 w k := fun k hk => by
  obtain ⟨cs, hc⟩ := h.blk k hk; exact ⟨cs, (0, 0), hc⟩
theorem fr_grown {w w' : World} {B g : Nat} {v : Value} {xs : List Int} (h : Row w B 5 .u8 v xs) (hg : w.grownBy w' v.ownBlock) : Fr w w' (SU B g w) :=
  (Fr.of_grown hg).mono (fun k _ hk => .inr ⟨(h.lt k hk).1, row_u8 h k hk⟩)

theorem take8_calls (w : World) (g : Nat) (t : TypeId) (post : List Value) (x : Int) (m : Nat) (hb : w.heap[g]? = some (.cells (.int .i64 x :: .int .i64 (m : Int) :: post).toArray t (0, 0)))
    (hx0 : 0 ≤ x) (hx : x < 2 ^ 62) (hm : 8 ≤ m) (hm2 : m ≤ 60) (y : Int) (hy : y = x % 256) :
    Calls Try.prog 50 #[.pointer (some ⟨g, 0, none⟩), .int .i64 8] w fun e w' => e = .returned (.int .i64 y) ∧
      w'.heap[g]? = some (.cells (.int .i64 (x / 256) :: .int .i64 ((m - 8 : Nat) : Int) :: post).toArray t (0, 0)) ∧ Fr w w' (· = g) := by
  subst hy
  exact take_calls w g t post x m 8 hb hx0 hx (by omega) hm hm2
/-- The step of Put's loop: a byte goes out. -/
theorem held_out {L xs : List Int} {x : Int} {m : Nat} (h0 : 0 ≤ x) (h8 : 8 ≤ m) (h : L = flat xs ++ bitsN x m) : L = flat (xs ++ [x % 256]) ++ bitsN (x / 256) (m - 8) := by
  rw [h, flat_snoc, List.append_assoc, show (256 : Int) = 2 ^ 8 from rfl, bitsN_mod x h0, ← bitsN_add x h0, show 8 + (m - 8) = m by omega]
set_option maxHeartbeats 2000000 in
set_option maxRecDepth 100000 in
theorem wr_put (w : World) (B g : Nat) (t : TypeId) (post : List Value) (L : List Int) (n : Int) (k : Nat) (h : WrAt w B g t post L) (hne : 5 ≠ t) (hn0 : 0 ≤ n) (hn : n < 2 ^ k) (hk : k ≤ 16) (hL : L.length ≤ 100000000) (hB : B ≤ w.heap.size) :
    Calls Try.prog 20 #[.pointer (some ⟨g, 0, none⟩), .int .i64 n, .int .i64 (k : Int)] w fun e w' => e = .returned (.int .i64 0) ∧ WrAt w' B g t post (L ++ bitsN n k) ∧ Fr w w' (SU B g w) := by
  obtain ⟨x, m, v, xs, hb, hr, hh⟩ := h.open_
  have hm := hh.lt
  have hlen := hh.length
  have q0 : decide (0 ≤ (k : Int)) = true := decide_eq_true (by omega)
  have q1 : decide ((k : Int) ≤ 16) = true := decide_eq_true (by omega)
  have q2 : decide (n < 0) = false := decide_eq_false (by omega)
  have q3 : n / 2 ^ k = 0 := Int.ediv_eq_zero_of_lt hn0 hn
  have HC := Aside0.mk (come_calls w g t (v :: post) x n m k hb hh.x0 hh.x1 hn0 hn hk (by omega))
  have hxs : xs.length ≤ 20000000 := by omega
  have HH : Aside0 (_ ∧ _ ∧ _ ∧ _ ∧ _) := ⟨hb, hr, hh, hn0, hn⟩
  clear hb hr hh hlen hn h
  go_enter Try.func20, Try.ntmps20
  go_wp2_with (first | (go_at_call 48; (with_reducible refine (fits_calls _ _).mono ?_); rintro e w' ⟨rfl, rfl⟩) | (go_at_call 49; (with_reducible refine HC.out.mono ?_); rintro e w1 ⟨rfl, hb1, hf1⟩; have HB1 : Aside0 (_ ∧ _) := ⟨hb1, hf1⟩; clear hb1 hf1 HC))
  go_loopg [29] 24 (fun kq v29 wr => ∃ (x1 : Int) (m1 : Nat) (v1 : Value) (xs1 : List Int), m1 ≤ 23 ∧ Aside0 (wr.heap[g]? = some (.cells (.int .i64 x1 :: .int .i64 (m1 : Int) :: v1 :: post).toArray t (0, 0))) ∧ Aside0 (Row wr B 5 .u8 v1 xs1) ∧
    Aside0 (L ++ bitsN n k = flat xs1 ++ bitsN x1 m1) ∧ Aside0 (0 ≤ x1 ∧ x1 < 2 ^ m1) ∧ Aside0 (∀ y ∈ xs1, 0 ≤ y ∧ y < 256) ∧ Aside0 (xs1.length + m1 ≤ 20000040 ∧ m1 < kq) ∧ Aside0 (Fr w wr (SU B g w)))
  case atStart =>
    have hxn : 0 ≤ x + n * 2 ^ m ∧ x + n * 2 ^ m < 2 ^ (m + k) := by
      have h1 := HH.out.2.2.1.x0
      have h2 := HH.out.2.2.1.x1
      have h3 := Int.mul_nonneg hn0 (Int.le_of_lt (pow_pos' m))
      refine ⟨by omega, ?_⟩
      have h4 : (n + 1) * 2 ^ m ≤ 2 ^ k * 2 ^ m := Int.mul_le_mul_of_nonneg_right (by have := HH.out.2.2.2.2; omega) (Int.le_of_lt (pow_pos' m))
      rw [Int.add_mul, Int.one_mul] at h4
      rw [Int.pow_add, Int.mul_comm (2 ^ m)]
      omega
    refine ⟨_, m + k, v, xs, by omega, ⟨HB1.out.1⟩, ⟨HH.out.2.1.fr HB1.out.2 (fun j hj => HH.out.2.1.ne_blk HH.out.1 hne j hj)⟩, ⟨?_⟩, ⟨hxn⟩, ⟨HH.out.2.2.1.by_⟩, ⟨by omega, by omega⟩, ⟨HB1.out.2.suOf⟩⟩
    rw [bitsN_cat x n m HH.out.2.2.1.x0 HH.out.2.2.1.x1 hn0, HH.out.2.2.1.eq, List.append_assoc]
  case round =>
    clear HB1 q0 q1 q2 q3
    obtain ⟨x1, m1, v1, xs1, hm23, HB, HR, HL, HX, HY, HQ, HF⟩ := hrel
    obtain ⟨A1, n1, k1c, hv1, hn1⟩ := HR.out.shape
    subst hv1
    clear hn1
    have c1 : wr.cell? ⟨g, 1, none⟩ = some (.int .i64 (m1 : Int)) := (blk_cell HB.out 1).trans (by simp)
    have c2 : wr.cell? ⟨g, 2, none⟩ = some (.slice A1 n1 k1c) := (blk_cell HB.out 2).trans (by simp)
    by_cases h8 : 8 ≤ m1
    · have q1 : decide (8 ≤ (m1 : Int)) = true := decide_eq_true (by omega)
      cases gk with
      | zero => exact absurd HQ.out.2 (by omega)
      | succ k1 =>
        have hp := pow_le (show m1 ≤ 62 by omega)
        obtain ⟨y, hy⟩ : ∃ y : Int, y = x1 % 256 := ⟨_, rfl⟩
        have hy0 : 0 ≤ y := by omega
        have hy1 : y < 256 := by omega
        have qw : IntKind.u8.wrap y = y := (IntKind.wrap_u8 _).trans (by omega)
        have qm : y % 256 = y := by omega
        have HT := Aside0.mk (take8_calls wr.drew g t (.slice A1 n1 k1c :: post) x1 m1 (blk_drew HB.out) HX.out.1 (by have := HX.out.2; omega) h8 (by omega) y hy)
        have HYY := Aside0.mk hy
        have hlx : xs1.length ≤ 20000040 := by have := HQ.out.1; omega
        have hBr : B ≤ wr.heap.size := by have := HF.out.size; omega
        clear hp hy
        go_wp2
        go_region_law ((first | (go_simp; go_at_call 50; (with_reducible refine HT.out.mono ?_); rintro e w2 ⟨rfl, hb2, hf2⟩; have hr2 := HR.out.fr hf2.of_drew (fun j hj => HR.out.ne_blk HB.out hne j hj); have hBr2 : B ≤ w2.heap.size := Nat.le_trans hBr hf2.of_drew.size; have d2 : w2.cell? ⟨g, 2, none⟩ = some (.slice A1 n1 k1c) := (blk_cell hb2 2).trans (by simp); have d5 : ∀ o, (w2.alloc o).cell? ⟨g, 2, none⟩ = some (.slice A1 n1 k1c) := fun o => (blk_cell (blk_alloc hb2 o) 2).trans (by simp)) | (refine app_step B rfl _ _ 25 5 .u8 1 rfl Try.underlying25 infoU8 (.slice A1 n1 k1c) xs1 [y] (by rfl) ⟨w2.heap.size, 0, none⟩ 1 1 (by rfl) rfl (news_lit w2 .u8 [y] _ _ (by rfl)) (hr2.alloc _) (by simp; omega) (by unfold maxLen; omega) (by omega) ?_; intro v3 w3 hap; obtain ⟨A3, n3, m3, hv3, hn3⟩ := hap.row.shape; subst hv3; have hb3 := hap.blk1 hr2 hb2 hne; have d3 := blk_frozen hb3 2; have d4 : w3.cell? ⟨g, 2, none⟩ = some (.slice A1 n1 k1c) := (blk_cell hb3 2).trans (by simp))))
        all_goals
          have hx2 := HX.out
          have hpw : (2 : Int) ^ m1 = 2 ^ (m1 - 8) * 256 := by
            have := Int.pow_add 2 (m1 - 8) 8
            rw [show m1 - 8 + 8 = m1 by omega] at this
            exact this
          have HK : Aside0 (_ ∧ _ ∧ _ ∧ _ ∧ _) := ⟨(show (w3.setCell ⟨g, 2, none⟩ (.slice A3 n3 m3)).heap[g]? = some (.cells (.int .i64 (x1 / 256) :: .int .i64 ((m1 - 8 : Nat) : Int) :: .slice A3 n3 m3 :: post).toArray t (0, 0)) from (blk_set hb3 2 (.slice A3 n3 m3)).trans (by simp)), hap.row.set hb3 hne 2 (.slice A3 n3 m3), held_out hx2.1 h8 HL.out, (⟨by omega, by omega⟩ : 0 ≤ x1 / 256 ∧ x1 / 256 < 2 ^ (m1 - 8)),
            HF.out.su ((hf2.of_drew.suOf.su (((Fr.refl w2 _).alloc (.cells #[.int .u8 y] 5)).su ((fr_grown (hr2.alloc _) hap.grown)))).su (((Fr.refl w3 (· = g)).set1 2 (.slice A3 n3 m3)).suOf))⟩
          clear hb2 hf2 hr2 hBr2 d2 d5 hn3 hap hb3 d3 d4 hx2 hpw HT
          go_wp2
          go_roundg k1
          case measure => omega
          case rel =>
            refine ⟨x1 / 256, m1 - 8, .slice A3 n3 m3, xs1 ++ [y], by omega, ⟨HK.out.1⟩, ⟨HK.out.2.1⟩, ⟨?_⟩, ⟨HK.out.2.2.2.1⟩, ⟨?_⟩, ⟨by rw [List.length_append, List.length_singleton]; have := HQ.out.1; omega, by have := HQ.out.2; omega⟩, ⟨HK.out.2.2.2.2⟩⟩
            · rw [HYY.out]; exact HK.out.2.2.1
            · intro z hz
              rcases List.mem_append.1 hz with h | h
              · exact HY.out z h
              · rw [List.mem_singleton.1 h]; omega
    · have q1 : decide (8 ≤ (m1 : Int)) = false := decide_eq_false (by omega)
      go_wp2
      repeat (rw [Exit.noGoto_ret])
      go_returns
      exact ⟨rfl, ⟨x1, m1, _, xs1, HB.out, HR.out, by omega, HX.out.1, HX.out.2, HL.out, HY.out⟩, HF.out⟩
theorem wr_put_arg (w : World) (g : Nat) (n k : Int) (hk : k < 0 ∨ 16 < k) :
    Calls Try.prog 20 #[.pointer (some ⟨g, 0, none⟩), .int .i64 n, .int .i64 k] w fun e w' => e = .returned (.int .i64 2) ∧ w = w' := by
  have q0 : (decide (0 ≤ k) && decide (k ≤ 16)) = false := by rw [Bool.and_eq_false_iff, decide_eq_false_iff_not, decide_eq_false_iff_not]; omega
  have HF := Aside0.mk (fits_calls k)
  rw [q0] at HF
  clear q0 hk
  go_enter Try.func20, Try.ntmps20
  go_wp2_with (go_at_call 48; (with_reducible refine (HF.out _).mono ?_); rintro e w' ⟨rfl, rfl⟩)
  repeat (rw [Exit.noGoto_ret])
  go_returns
  exact ⟨rfl, rfl⟩
theorem wr_put_nil (w : World) (n k : Int) :
    Calls Try.prog 20 #[.pointer none, .int .i64 n, .int .i64 k] w fun e w' => e = .returned (.int .i64 1) ∧ w = w' := by
  go_enter Try.func20, Try.ntmps20
  go_wp2
  repeat (rw [Exit.noGoto_ret])
  go_returns
  exact ⟨rfl, rfl⟩
theorem wr_put_range (w : World) (g : Nat) (n : Int) (k : Nat) (hk : k ≤ 16) (hn : n < 0 ∨ 2 ^ k ≤ n) (hn2 : n ≤ 9223372036854775807) :
    Calls Try.prog 20 #[.pointer (some ⟨g, 0, none⟩), .int .i64 n, .int .i64 (k : Int)] w fun e w' => e = .returned (.int .i64 3) ∧ w = w' := by
  have q0 : decide (0 ≤ (k : Int)) = true := decide_eq_true (by omega)
  have q1 : decide ((k : Int) ≤ 16) = true := decide_eq_true (by omega)
  by_cases h0 : n < 0
  · have q2 : decide (n < 0) = true := decide_eq_true h0
    go_enter Try.func20, Try.ntmps20
    go_wp2_with (go_at_call 48; (with_reducible refine (fits_calls _ _).mono ?_); rintro e w' ⟨rfl, rfl⟩)
    repeat (rw [Exit.noGoto_ret])
    go_returns
    exact ⟨rfl, rfl⟩
  · have q2 : decide (n < 0) = false := decide_eq_false h0
    have hq : 1 ≤ n / 2 ^ k := by rw [Int.le_ediv_iff_mul_le (pow_pos' k)]; omega
    have hq1 : (n / 2 ^ k == 0) = false := beq_eq_false_iff_ne.2 (by omega)
    have hq2 : (n / 2 ^ k != 0) = true := bne_iff_ne.2 (by omega)
    clear hn hq
    go_enter Try.func20, Try.ntmps20
    go_wp2_with (go_at_call 48; (with_reducible refine (fits_calls _ _).mono ?_); rintro e w' ⟨rfl, rfl⟩)
    repeat (rw [Exit.noGoto_ret])
    go_returns
    exact ⟨rfl, rfl⟩
theorem wr_text_nil (w : World) : Calls Try.prog 22 #[.pointer none] w fun e w' => e = .returned (.string ⟨#[]⟩) ∧ w = w' := by
  go_enter Try.func22, Try.ntmps22
  go_wp2
  repeat (rw [Exit.noGoto_ret])
  go_returns
  exact ⟨rfl, rfl⟩
theorem wr_align_nil (w : World) : Calls Try.prog 21 #[.pointer none] w fun e w' => e = .returned (.tuple #[]) ∧ w = w' := by
  go_enter Try.func21, Try.ntmps21
  go_wp2
  go_returns
  exact ⟨rfl, rfl⟩
/-- Bits 0 up to a whole byte. -/
def alignL (L : List Int) : List Int := L ++ List.replicate ((8 - L.length % 8) % 8) 0
theorem wr_align (w : World) (B g : Nat) (t : TypeId) (post : List Value) (L : List Int) (h : WrAt w B g t post L) (hne : 5 ≠ t) (hL : L.length ≤ 100000000) (hB : B ≤ w.heap.size) :
    Calls Try.prog 21 #[.pointer (some ⟨g, 0, none⟩)] w fun e w' => e = .returned (.tuple #[]) ∧ WrAt w' B g t post (alignL L) ∧ Fr w w' (SU B g w) := by
  obtain ⟨x, m, v, xs, hb, hr, hh⟩ := h.open_
  have c1 : w.cell? ⟨g, 1, none⟩ = some (.int .i64 (m : Int)) := (blk_cell hb 1).trans (by simp)
  have hlen := hh.length
  have hm := hh.lt
  unfold alignL
  by_cases h0 : m = 0
  · subst h0
    have e : (8 - L.length % 8) % 8 = 0 := by omega
    rw [e, List.replicate_zero, List.append_nil]
    have H := Aside0.mk h
    clear hb hr hh h hlen e
    go_enter Try.func21, Try.ntmps21
    go_wp2
    go_returns
    exact ⟨rfl, H.out, Fr.refl _ _⟩
  · have e : (8 - L.length % 8) % 8 = 8 - m := by omega
    rw [e, ← bitsN_zero]
    have HP := Aside0.mk (wr_put w B g t post L 0 (8 - m) h hne (Int.le_refl _) (pow_pos' _) (by omega) hL hB)
    have q1 : decide (0 < (m : Int)) = true := decide_eq_true (by omega)
    have q2 : decide (0 < m) = true := decide_eq_true (by omega)
    have ec : (8 : Int) - (m : Int) = ((8 - m : Nat) : Int) := by omega
    rw [← ec] at HP
    clear hb hr hh h hlen e ec
    go_enter Try.func21, Try.ntmps21
    go_wp2_with (go_at_call 20; (with_reducible refine HP.out.mono ?_); rintro e w' ⟨rfl, h1, h2⟩)
    go_returns
    exact ⟨rfl, h1, h2⟩
set_option maxRecDepth 100000 in
theorem wr_text (w : World) (B g : Nat) (t : TypeId) (post : List Value) (L : List Int) (h : WrAt w B g t post L) (hL : L.length ≤ 100000000) :
    Calls Try.prog 22 #[.pointer (some ⟨g, 0, none⟩)] w fun e w' => ∃ s, e = .returned (.string s) ∧ TextOf L s ∧ Below w.heap.size w w' := by
  obtain ⟨x, m, v, xs, hb, hr, hh⟩ := h.open_
  have ks := hr.str (P := Try.prog) (src := 25) (dst := 9) Try.underlying25 Try.underlying5 Try.underlying9
  have c0 : w.cell? ⟨g, 0, none⟩ = some (.int .i64 x) := (blk_cell hb 0).trans (by simp)
  have c1 : w.cell? ⟨g, 1, none⟩ = some (.int .i64 (m : Int)) := (blk_cell hb 1).trans (by simp)
  have c2 : w.cell? ⟨g, 2, none⟩ = some v := (blk_cell hb 2).trans (by simp)
  have HT := Aside0.mk hh.text
  have hlen := hh.length
  have hl2 : xs.length ≤ 20000000 := by omega
  have hm := hh.lt
  by_cases h0 : m = 0
  · subst h0
    clear hb hr hh h hlen
    go_enter Try.func22, Try.ntmps22
    go_wp2
    repeat (rw [Exit.noGoto_ret])
    go_returns
    exact ⟨_, rfl, HT.out, Below.refl _ _⟩
  · have q1 : decide (0 < (m : Int)) = true := decide_eq_true (by omega)
    have q2 : decide (0 < m) = true := decide_eq_true (by omega)
    have hx1 := pow_le (show m ≤ 8 by omega)
    have hxr : 0 ≤ x ∧ x < 256 := ⟨hh.x0, by have := hh.x1; omega⟩
    have qw : IntKind.u8.wrap x = x := (IntKind.wrap_u8 _).trans (by omega)
    have qm : x % 256 = x := by omega
    have k1 : (convert 25 9 (.slice (some ⟨w.heap.size, 0, none⟩) 1 1)).run Try.prog (w.alloc (.cells #[.int .u8 x] 5)) = .ok (.string (strOfNums [x])) (w.alloc (.cells #[.int .u8 x] 5)) := by
      refine run_convert_bytes_arg _ 25 5 Try.underlying25 Try.underlying5 w.heap.size 0 1 1 [x] rfl (fun j hj => ?_) 9 Try.underlying9
      obtain rfl : j = 0 := by omega
      exact (blk_cell (blk_new w (.cells #[.int .u8 x] 5)) 0).trans (by simp)
    clear hb hr hh h hlen hx1
    go_enter Try.func22, Try.ntmps22
    go_wp2
    · rename_i hbig
      rw [strOfNums_size, strOfNums_size, List.length_singleton] at hbig
      omega
    · repeat (rw [Exit.noGoto_ret])
      go_returns
      refine ⟨_, rfl, ?_, below_alloc (Below.refl _ _) _⟩
      have hp : strOfNums (packL xs x m) = strOfNums xs ++ strOfNums [x] := by
        unfold packL
        rw [if_neg h0]
        apply ByteArray.ext
        apply Array.toList_inj.1
        rw [strOfNums_data, ByteArray.data_append, Array.toList_append, strOfNums_data, strOfNums_data, List.map_append]
      rw [← hp]
      exact HT.out
theorem WrAt.new (w : World) (B : Nat) : WrAt (w.alloc (.cells #[.int .i64 0, .int .i64 0, .slice none 0 0] 39)) B w.heap.size 39 [] [] :=
  ⟨0, 0, _, [], blk_new w _, Row.nil _ _ _ _, Held.nil⟩
end Go.Proofs.Ytfoicjlkbkjfjaa.Hand
