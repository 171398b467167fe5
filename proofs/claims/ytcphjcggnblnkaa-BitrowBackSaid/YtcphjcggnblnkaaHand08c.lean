/- binderylaw08.BitrowBack answers true: walked by hand over the contracts of layer 8. -/
import Derived.Test.YtcphjcggnblnkaaHand08b
import Derived.Handy
namespace Go.Proofs.Ytcphjcggnblnkaa.Hand
open Go.RowKit Go.Proofs.YtcphjcggnblnkaaW.PrintWords Go.Proofs.YtcphjcggnblnkaaW.PrintLast Go.Proofs.YtcphjcggnblnkaaW.PrintMore Go.Proofs.Ytcphjcggnblnkaa.Num Go.Proofs.Ytcphjcggnblnkaa.Bits Go.Proofs.Ytcphjcggnblnkaa.P08
set_option linter.unusedVariables false
set_option linter.unusedSimpArgs false

theorem infoAct : (Try.prog.info? 31).map (fun i => (i.zero, i.size, i.bytes)) = some (some (.agg #[.int .i64 0, .int .i64 0, .bool false]), 3, 24) := by kernel_rfl
/-- The cells of acts; the bits of acts. -/
def actCells (M : List (Int × Int × Bool)) : List Value := M.flatMap fun a => [.int .i64 a.1, .int .i64 a.2.1, .bool a.2.2]
def actBits (M : List (Int × Int × Bool)) : List Int := M.flatMap fun a => bitsN a.1 a.2.1.toNat
theorem actCells_get : ∀ (M : List (Int × Int × Bool)) (i : Nat), i < M.length → (actCells M)[i * 3]? = some (.int .i64 (M.getD i (0, 0, false)).1) ∧ (actCells M)[i * 3 + 1]? = some (.int .i64 (M.getD i (0, 0, false)).2.1) ∧ (actCells M)[i * 3 + 2]? = some (.bool (M.getD i (0, 0, false)).2.2)
  | [], i, h => absurd h (Nat.not_lt_zero _)
  | a :: M, 0, _ => ⟨rfl, rfl, rfl⟩
  | a :: M, i + 1, h => by
    have hh := actCells_get M i (by simpa using h)
    have e : ∀ j, (actCells (a :: M))[j + 3]? = (actCells M)[j]? := fun j => rfl
    rw [show (i + 1) * 3 = i * 3 + 3 by omega, show i * 3 + 3 + 1 = (i * 3 + 1) + 3 by omega, show i * 3 + 3 + 2 = (i * 3 + 2) + 3 by omega, e, e, e, List.getD_cons_succ]
    exact hh
/-- An act that a writer takes. -/
def Good (a : Int × Int × Bool) : Prop := (Lit.int .i64 a.1).wf = true ∧ (Lit.int .i64 a.2.1).wf = true ∧ 0 ≤ a.2.1 ∧ a.2.1 ≤ 16 ∧ 0 ≤ a.1 ∧ a.1 < 2 ^ a.2.1.toNat
theorem good_of {a : Int × Int × Bool} (h1 : (Lit.int .i64 a.1).wf = true) (h2 : (Lit.int .i64 a.2.1).wf = true) (h : putE a.1 a.2.1 = 0) : Good a := by
  unfold putE at h
  split at h
  · cases h
  · split at h
    · cases h
    · exact ⟨h1, h2, by omega, by omega, by omega, by omega⟩
/-- What the law holds in a round: its writer, what was put, and what was there. -/
structure Bk (w wr : World) (v : Value) (M : List (Int × Int × Bool)) : Prop where
  wr_ : WrAt wr w.heap.size w.heap.size 28 [] (actBits M)
  row : wr.ownsRow w.heap.size 31 3 v M.length (actCells M)
  below : Below w.heap.size w wr
  ok : ∀ a ∈ M, Good a
  len : M.length ≤ 100
theorem actBits_len : ∀ (M : List (Int × Int × Bool)), (∀ a ∈ M, Good a) → (actBits M).length ≤ 16 * M.length
  | [], _ => by simp [actBits]
  | a :: M, h => by
    have h1 := actBits_len M (fun b hb => h b (List.mem_cons_of_mem _ hb))
    have h2 := h a (List.mem_cons_self ..)
    unfold Good at h2
    have e : actBits (a :: M) = bitsN a.1 a.2.1.toNat ++ actBits M := rfl
    rw [e, List.length_append, bitsN_length, List.length_cons]
    omega
theorem actBits_at (M : List (Int × Int × Bool)) (i : Nat) (h : i < M.length) : actBits M = actBits (M.take i) ++ bitsN (M.getD i (0, 0, false)).1 (M.getD i (0, 0, false)).2.1.toNat ++ actBits (M.drop (i + 1)) := by
  have e : M = M.take i ++ (M.getD i (0, 0, false) :: M.drop (i + 1)) := by
    rw [List.getD_eq_getElem?_getD, List.getElem?_eq_getElem h, Option.getD_some, ← List.drop_eq_getElem_cons h, List.take_append_drop]
  conv => lhs; rw [e]
  simp [actBits]
theorem actBits_take (M : List (Int × Int × Bool)) (i : Nat) (h : i < M.length) : (actBits (M.take (i + 1))).length = (actBits (M.take i)).length + (M.getD i (0, 0, false)).2.1.toNat := by
  have e : M.take (i + 1) = M.take i ++ [M.getD i (0, 0, false)] := by
    rw [List.take_succ_eq_append_getElem h, List.getD_eq_getElem?_getD, List.getElem?_eq_getElem h]; rfl
  rw [e]
  simp [actBits, bitsN_length]
theorem Bk.apart {w wr : World} {v : Value} {M : List (Int × Int × Bool)} (h : Bk w wr v M) : ∀ k, v.ownBlock = some k → ¬ SU w.heap.size w.heap.size wr k := by
  intro k hk hs
  obtain ⟨cells, hc⟩ := own_typed h.row k hk
  rcases hs with rfl | ⟨_, cs, fr, hc2⟩
  · obtain ⟨x, m, u, xs, q1, _⟩ := h.wr_.open_
    rw [hc] at q1
    injection q1 with q1
    injection q1 with _ q1
    exact absurd q1 (by decide)
  · rw [hc] at hc2
    injection hc2 with hc2
    injection hc2 with _ hc2
    exact absurd hc2 (by decide)
theorem Bk.later {w wr w2 : World} {v : Value} {M : List (Int × Int × Bool)} (h : Bk w wr v M) (hb : Below wr.heap.size wr w2) : Bk w w2 v M :=
  ⟨h.wr_.below hb, pw_own_below h.row hb, h.below.trans (hb.mono h.below.size), h.ok, h.len⟩
/-- The acts that were put, read. -/
theorem Bk.acts {w wr : World} {v : Value} {M : List (Int × Int × Bool)} (h : Bk w wr v M) : ∃ A c, v = .slice A M.length c ∧ Acts wr A M.length M := by
  rcases h.row.2 with ⟨rfl, hx⟩ | ⟨g, cells, cap, rfl, _⟩
  · have hM : M = [] := by
      cases M with
      | nil => rfl
      | cons a M => cases hx
    subst hM
    exact ⟨none, 0, rfl, rfl, fun i hi => absurd hi (Nat.not_lt_zero _)⟩
  · refine ⟨_, _, rfl, rfl, fun i hi => ⟨_, rfl, ?_⟩⟩
    obtain ⟨g0, g1, g2⟩ := actCells_get M i hi
    have hc := h.row.cells (g := g) rfl
    have hgd : Good (M.getD i (0, 0, false)) := by
      rw [List.getD_eq_getElem?_getD, List.getElem?_eq_getElem hi]
      exact h.ok _ (List.getElem_mem hi)
    have k0 := hc _ _ g0
    have k1 := hc _ _ g1
    have k2 := hc _ _ g2
    simp only [Addr.add_lit, Nat.zero_add] at k0 k1 k2 ⊢
    exact ⟨k0, k1, k2, hgd.1, hgd.2.1⟩
theorem news3 (w : World) (x y z : Value) (t : TypeId) : ∀ j u, [x, y, z][j]? = some u → (w.alloc (.cells #[x, y, z] t)).cell? ((⟨w.heap.size, 0, none⟩ : Addr).add j) = some u := by
  intro j u h
  rw [Addr.add_lit, Nat.zero_add]
  exact (blk_cell (heap_alloc_new w _) j).trans (by simpa using h)
/-- An act put. -/
theorem Bk.put {w wr w2 w3 : World} {v v' : Value} {M : List (Int × Int × Bool)} (h : Bk w wr v M) {N k : Int} {b : Bool} (hE : putE N k = 0) (h1 : (Lit.int .i64 N).wf = true) (h2 : (Lit.int .i64 k).wf = true) (hM : M.length < 100)
    (hw : WrAt w2 w.heap.size w.heap.size 28 [] (putL (actBits M) N k)) (hb : Below w.heap.size w w2) (hr : w3.ownsRow w.heap.size 31 3 v' (M.length + 1) (actCells M ++ [.int .i64 N, .int .i64 k, .bool b]))
    {ob : Obj} (ho : w2.ownsRow w.heap.size 31 3 v M.length (actCells M)) (hg : (w2.alloc ob).grownBy w3 v.ownBlock) : Bk w w3 v' (M ++ [(N, k, b)]) := by
  have hap := (World.ownsRow.alloc ho ob)
  have e : putL (actBits M) N k = actBits (M ++ [(N, k, b)]) := by
    unfold putL; rw [if_pos hE]; simp [actBits]
  rw [e] at hw
  have ec : actCells M ++ [.int .i64 N, .int .i64 k, .bool b] = actCells (M ++ [(N, k, b)]) := by simp [actCells]
  rw [ec] at hr
  refine ⟨?_, by rw [List.length_append, List.length_singleton]; exact hr, ?_, ?_, by rw [List.length_append, List.length_singleton]; omega⟩
  · have ne : ∀ g t cs fr, w2.heap[g]? = some (.cells cs t fr) → 31 ≠ t → some g ≠ v.ownBlock := by
      intro g t cs fr hc hne hv
      obtain ⟨cells, hc2⟩ := own_typed ho g hv.symm
      rw [hc] at hc2
      injection hc2 with hc2
      injection hc2 with _ hc2
      exact hne hc2.symm
    exact (hw.below (below_alloc (Below.refl _ _) ob)).fr (Fr.of_grown hg) (fun he => by
      obtain ⟨x, m, u, xs, q1, _⟩ := hw.open_
      exact ne _ _ _ _ q1 (by decide) he.symm) (fun j hj he => by
      obtain ⟨cs, fr, hc⟩ := hj
      have hlt : j < w2.heap.size := by have := (World.ownsRow.lt ho j he).2; exact this
      rw [World.alloc, Array.getElem?_push] at hc
      rw [if_neg (by omega)] at hc
      exact ne _ _ _ _ hc (by decide) he.symm)
  · exact (hb.alloc hb.size ob).trans ((Below.refl _ _).grown hg (by simp; have := hb.size; omega) (fun g hgg => (World.ownsRow.lt ho g hgg).1))
  · intro a ha
    rcases List.mem_append.1 ha with ha | ha
    · exact h.ok a ha
    · rw [List.mem_singleton.1 ha]; exact good_of h1 h2 hE
set_option maxRecDepth 100000 in
set_option maxHeartbeats 4000000 in
theorem bitrowBack_walk (A : Option Addr) (n c : Nat) (zs : List (Int × Int × Bool)) (w : World) (hz : Acts w A n zs) :
    Calls Try.prog 5 #[.slice A n c] w fun e w' => e = .returned (.bool true) ∧ Below w.heap.size w w' := by
  by_cases h2 : 100 < n
  · have q2 : decide ((100 : Int) < (n : Int)) = true := decide_eq_true (by omega)
    go_enter Try.func5, Try.ntmps5
    go_wp2_with (go_at_call 11; (with_reducible refine (rows_true _).mono ?_); rintro e w1 ⟨rfl, hb1⟩)
    go_returns
    exact ⟨rfl, hb1⟩
  · have q2 : decide ((100 : Int) < (n : Int)) = false := decide_eq_false (by omega)
    have HZ := Aside0.mk hz
    have hn : n ≤ 100 := by omega
    have h0 : Bk w (w.alloc (.cells #[.int .i64 0, .int .i64 0, .slice none 0 0] 28)) (.slice none 0 0) [] :=
      ⟨WrAt.new w w.heap.size, own_nil _ _ _ _, below_alloc (Below.refl _ _) _, fun a ha => absurd ha (List.not_mem_nil), by simp⟩
    have H0 := Aside0.mk h0
    clear hz h2 h0
    go_enter Try.func5, Try.ntmps5
    go_wp2
    obtain ⟨g, hg⟩ : ∃ g, g = w.heap.size := ⟨_, rfl⟩
    go_loopw [4, 5] (fun v4 v5 wr => ∃ (v : Value) (i : Nat) (M : List (Int × Int × Bool)), v = v4 ∧ i ≤ n ∧ v5 = .int .i64 i ∧ M.length ≤ i ∧ Aside0 (Bk w wr v M)) (fun _ v5 _ => n - (intOf v5).toNat)
    case atStart => exact ⟨_, 0, [], rfl, by omega, rfl, by simp, H0⟩
    case round =>
      clear H0
      obtain ⟨v, i, M, rfl, hi, rfl, hL, HT⟩ := hrel
      by_cases hlt : i < n
      · have q3 : decide ((i : Int) < (n : Int)) = true := decide_eq_true (by omega)
        have q3n : decide (i < n) = true := decide_eq_true hlt
        obtain ⟨ad, ha, hc0, hc1, hc2, hw0, hw1⟩ := HZ.out.at_ i hlt
        cases ha
        obtain ⟨N, hN⟩ : ∃ N : Int, N = (zs.getD i (0, 0, false)).1 := ⟨_, rfl⟩
        obtain ⟨k, hk⟩ : ∃ k : Int, k = (zs.getD i (0, 0, false)).2.1 := ⟨_, rfl⟩
        obtain ⟨b, hbb⟩ : ∃ b : Bool, b = (zs.getD i (0, 0, false)).2.2 := ⟨_, rfl⟩
        rw [← hN] at hc0 hw0
        rw [← hk] at hc1 hw1
        rw [← hbb] at hc2
        have D := fun (W : World) (hb : Below w.heap.size w W) => (⟨(hb.cell (World.block_lt_of_cell? w _ hc0)).trans hc0, (hb.cell (World.block_lt_of_cell? w _ hc1)).trans hc1⟩ : W.cell? (ad.add (i * 3)) = some (.int .i64 N) ∧ W.cell? ⟨(ad.add (i * 3)).block, (ad.add (i * 3)).off + 1, none⟩ = some (.int .i64 k))
        have D2 := fun (W : World) (hb : Below w.heap.size w W) => ((hb.cell (World.block_lt_of_cell? w _ hc2)).trans hc2 : W.cell? ⟨(ad.add (i * 3)).block, (ad.add (i * 3)).off + 2, none⟩ = some (.bool b))
        have DD := Aside0.mk (And.intro D D2)
        have HW0 : Aside0 (_ ∧ _) := ⟨hw0, hw1⟩
        have hbl := actBits_len M HT.out.ok
        have hML := HT.out.len
        have WP := Aside0.mk (wrput_any wr.drew w.heap.size w.heap.size 28 [] (actBits M) N k (HT.out.wr_.drawn ⟨1, rfl⟩) (by decide) hw0 (by omega) HT.out.below.size)
        obtain ⟨d0, d1⟩ := D wr HT.out.below
        clear hN hk hbb hc0 hc1 hc2 hw0 hw1 D D2 hbl
        by_cases hE : putE N k = 0
        · rw [hE] at WP
          have HE := Aside0.mk hE
          clear hE
          go_wp2_with fail
          go_region_held3 (fun w' => w'.cell? (ad.add (i * 3)) = some (.int .i64 N) ∧ w'.cell? ⟨(ad.add (i * 3)).block, (ad.add (i * 3)).off + 1, none⟩ = some (.int .i64 k)) (first | exact ⟨d0, d1⟩ | exact DD.out.1 _ hbw3) ((go_at_call 15; refine WP.out.mono ?_; rintro e w3 ⟨rfl, h3, f3⟩; have hbw3 : Below w.heap.size w w3 := HT.out.below.drew.trans (f3.suBelow (Nat.le_refl _) (Nat.le_refl _) HT.out.below.size)))
          have ho : w3.ownsRow w.heap.size 31 3 v M.length (actCells M) := f3.own (show wr.drew.ownsRow w.heap.size 31 3 v M.length (actCells M) from HT.out.row) HT.out.apart
          have H3 : Aside0 (_ ∧ _ ∧ _ ∧ _ ∧ _) := ⟨h3, ho, hbw3, HT.out, HE.out⟩
          obtain ⟨d0, d1⟩ := DD.out.1 w3 hbw3
          have d2 := DD.out.2 w3 hbw3
          have hML2 : M.length < 100 := by omega
          obtain ⟨i0, hi0, hzz⟩ := Option.map_eq_some_iff.1 infoAct
          simp only [Prod.mk.injEq] at hzz
          obtain ⟨hz0, hz1, hz2⟩ := hzz
          clear h3 f3 hbw3 HT HE WP DD
          go_wp2_with (at_builtin; refine wpList_append_own_at _ rfl _ _ 22 rfl w.heap.size 31 i0 (.agg #[.int .i64 0, .int .i64 0, .bool false]) 3 24 Try.underlying22 hi0 hz0 hz1 hz2 rfl (by decide) v M.length (actCells M) ?a0 (World.ownsRow.alloc ho _) ⟨w3.heap.size, 0, none⟩ 1 1 [.int .i64 N, .int .i64 k, .bool b] ?a1 rfl (news3 _ _ _ _ _) (by simp [Value.oneCell']) (by unfold maxLen; omega) (by omega) (by simp; have := H3.out.2.2.1.size; omega) ?_)
          case a0 => first | rfl | trace_state
          case a1 => first | rfl | trace_state
          intro v1 w4 hown hgr _ _
          have HT4 := Aside0.mk (H3.out.2.2.2.1.put H3.out.2.2.2.2 HW0.out.1 HW0.out.2 hML2 H3.out.1 H3.out.2.2.1 hown H3.out.2.1 hgr)
          clear hown hgr H3 ho hi0 hz0 hz1 hz2 d0 d1 d2
          go_wp2_with fail
          go_roundw
          case rel => exact ⟨_, i + 1, _, rfl, by omega, by go_num, by rw [List.length_append, List.length_singleton]; omega, HT4⟩
          case measure => simp [intOf]; omega
        · obtain ⟨e2, he2⟩ : ∃ e2, e2 = putE N k := ⟨_, rfl⟩
          rw [← he2] at WP hE
          have hpl : putL (actBits M) N k = actBits M := by unfold putL; rw [if_neg (by rw [← he2]; exact hE)]
          rw [hpl] at WP
          have hEb : (e2 == 0) = false := beq_eq_false_iff_ne.2 hE
          have DD1 := Aside0.mk DD.out.1
          clear hE he2 hpl HW0 DD
          go_wp2_with fail
          go_region_held3 (fun w' => w'.cell? (ad.add (i * 3)) = some (.int .i64 N) ∧ w'.cell? ⟨(ad.add (i * 3)).block, (ad.add (i * 3)).off + 1, none⟩ = some (.int .i64 k)) (first | exact ⟨d0, d1⟩ | exact DD1.out _ hbw3) ((go_at_call 15; refine WP.out.mono ?_; rintro e w3 ⟨rfl, h3, f3⟩; have hbw3 : Below w.heap.size w w3 := HT.out.below.drew.trans (f3.suBelow (Nat.le_refl _) (Nat.le_refl _) HT.out.below.size)))
          have HT4 : Aside0 (Bk w w3 v M) := ⟨⟨h3, f3.own (show wr.drew.ownsRow w.heap.size 31 3 v M.length (actCells M) from HT.out.row) HT.out.apart, hbw3, HT.out.ok, HT.out.len⟩⟩
          clear h3 f3 hbw3 HT WP DD1 d0 d1
          go_wp2_with fail
          go_roundw
          case rel => exact ⟨_, i + 1, _, rfl, by omega, by go_num, by omega, HT4⟩
          case measure => simp [intOf]; omega
      · have q3 : decide ((i : Int) < (n : Int)) = false := decide_eq_false (by omega)
        have q3n : decide (i < n) = false := decide_eq_false hlt
        clear hL HZ hlt hi
        go_wp2_with fail
        have hbl := actBits_len M HT.out.ok
        have hML := HT.out.len
        refine (wr_text _ _ _ _ _ _ HT.out.wr_ (by omega)).mono ?_
        rintro e w4 ⟨s4, rfl, t4, b4⟩
        have HT4 := Aside0.mk (HT.out.later b4)
        have hs4 : s4.size ≤ 201 := by have := t4.size; omega
        have HX : Aside0 (_ ∧ _) := ⟨t4, hbl⟩
        clear t4 b4 HT hbl
        obtain ⟨A1, c1, hv, hA⟩ := HT4.out.acts
        have HA := Aside0.mk hA
        subst hv
        clear hA
        go_wp2_with fail
        refine (rd_new _ _).mono ?_
        rintro e w5 ⟨rfl, hr5, hb5⟩
        obtain ⟨r, hr⟩ : ∃ r, r = w4.heap.size := ⟨_, rfl⟩
        have HR5 : Aside0 (_ ∧ _) := ⟨hr5, hb5⟩
        rw [← hr] at HR5 ⊢
        have HRR : Aside0 (w4.heap.size ≤ r) := ⟨by omega⟩
        clear hr5 hb5 hr
        go_wp2_with fail
        go_loopw [7] (fun v7 wr => ∃ (j : Nat), j ≤ M.length ∧ v7 = .int .i64 j ∧ Aside0 (RdAt wr r s4 (actBits (M.take j)).length ∧ Below w4.heap.size w4 wr)) (fun v7 _ => M.length - (intOf v7).toNat)
        case atStart => exact ⟨0, by omega, rfl, ⟨by simpa [actBits] using HR5.out.1, by have h := HR5.out.2; exact h.mono HRR.out⟩⟩
        case round =>
          clear HR5
          obtain ⟨j, hj, rfl, HR⟩ := hrel
          by_cases hlt : j < M.length
          · have q5 : decide ((j : Int) < (M.length : Int)) = true := decide_eq_true (by omega)
            have q5n : decide (j < M.length) = true := decide_eq_true hlt
            obtain ⟨ad, ha, hc0, hc1, _, hw0, hw1⟩ := HA.out.at_ j hlt
            cases ha
            have hG : Good (M.getD j (0, 0, false)) := by
              rw [List.getD_eq_getElem?_getD, List.getElem?_eq_getElem hlt]
              exact HT4.out.ok _ (List.getElem_mem hlt)
            have hAt := actBits_at M j hlt
            have hTk := actBits_take M j hlt
            obtain ⟨N, hN⟩ : ∃ N : Int, N = (M.getD j (0, 0, false)).1 := ⟨_, rfl⟩
            obtain ⟨k, hk⟩ : ∃ k : Int, k = (M.getD j (0, 0, false)).2.1 := ⟨_, rfl⟩
            unfold Good at hG
            rw [← hN] at hc0 hG hAt
            rw [← hk] at hc1 hG hAt hTk
            obtain ⟨kn, rfl⟩ := Int.eq_ofNat_of_zero_le hG.2.2.1
            rw [Int.toNat_natCast] at hG hAt hTk
            have hval : val s4 (actBits (M.take j)).length kn = N := TextOf.get (A := actBits (M.take j)) (B := actBits (M.drop (j + 1))) (by rw [← hAt]; exact HX.out.1) hG.2.2.2.2.1 hG.2.2.2.2.2
            have hpk : (actBits (M.take j)).length + kn ≤ 8 * s4.size := by
              have h1 := HX.out.1.size
              have h2 := congrArg List.length hAt
              rw [List.length_append, List.length_append, bitsN_length] at h2
              omega
            have HG := fun (W : World) (h : RdAt W r s4 (actBits (M.take j)).length) => rd_get W r s4 (actBits (M.take j)).length kn h (by omega) (by omega) hpk
            rw [hval, ← hTk] at HG
            have HGG := Aside0.mk HG
            obtain ⟨p1, hp1⟩ : ∃ p1, p1 = (actBits (M.take j)).length := ⟨_, rfl⟩
            obtain ⟨p2, hp2⟩ : ∃ p2, p2 = (actBits (M.take (j + 1))).length := ⟨_, rfl⟩
            rw [← hp1, ← hp2] at HGG
            rw [← hp1] at HR
            have HP := Aside0.mk hp2
            have DD := Aside0.mk (fun (W : World) (hb : Below w4.heap.size w4 W) => (⟨(hb.cell (World.block_lt_of_cell? w4 _ hc0)).trans hc0, (hb.cell (World.block_lt_of_cell? w4 _ hc1)).trans hc1⟩ : W.cell? (ad.add (j * 3)) = some (.int .i64 N) ∧ W.cell? ⟨(ad.add (j * 3)).block, (ad.add (j * 3)).off + 1, none⟩ = some (.int .i64 kn)))
            obtain ⟨d0, d1⟩ := DD.out _ HR.out.2
            clear hN hk hc0 hc1 hw0 hw1 hG hAt hTk hval hpk HG hp1 hp2
            go_wp2_with fail
            refine (HGG.out _ HR.out.1).mono ?_
            rintro e w7 ⟨rfl, hr7, f7⟩
            have hb7 : Below w4.heap.size w4 w7 := HR.out.2.trans (f7.below (B := w4.heap.size) (by rintro k rfl; exact HRR.out) HR.out.2.size)
            obtain ⟨e0, e1⟩ := DD.out _ hb7
            have HR7 : Aside0 (_ ∧ _) := ⟨hr7, hb7⟩
            clear d0 d1 hr7 hb7 f7 HR HGG DD
            go_wp2_with fail
            go_roundw
            case rel => exact ⟨j + 1, by omega, by go_num, by rw [← HP.out]; exact HR7⟩
            case measure => simp [intOf]; omega
          · have q5 : decide ((j : Int) < (M.length : Int)) = false := decide_eq_false (by omega)
            have q5n : decide (j < M.length) = false := decide_eq_false hlt
            obtain rfl : j = M.length := by omega
            rw [List.take_length] at HR
            obtain ⟨p, hp⟩ : ∃ p, p = (actBits M).length := ⟨_, rfl⟩
            have hsz := HX.out.1.size
            rw [← hp] at HR hsz
            obtain ⟨kk, hkk⟩ : ∃ kk : Nat, kk = 8 * s4.size - p := ⟨_, rfl⟩
            have hkz : 8 * (s4.size : Int) - (p : Int) = (kk : Int) := by omega
            have hk8 : kk < 8 := by omega
            have hpp : p + kk = 8 * s4.size := by omega
            have k1 : decide (kk < 8) = true := decide_eq_true hk8
            have k2 : decide ((kk : Int) < 8) = true := decide_eq_true (by omega)
            have k3 : decide (0 ≤ (kk : Int)) = true := decide_eq_true (by omega)
            have hval : val s4 p kk = 0 := by
              rw [val_of s4 p 0 (by omega) kk (fun i hi => by
                rw [HX.out.1.bit0 (p + i) (by omega) (by omega)]; simp)]
              simp
            have HG := fun (W : World) (h : RdAt W r s4 p) => rd_get W r s4 p kk h (by omega) (by omega) (by omega)
            rw [hval, hpp] at HG
            have HGG := Aside0.mk HG
            have HPL := Aside0.mk (show p ≤ 8 * s4.size by omega)
            have hpl := HPL.out
            clear hlt hj hp hsz hkk hk8 hval HG hpp
            go_wp2_with fail
            refine (wr_text _ _ _ _ _ _ (HT4.out.wr_.below HR.out.2) (by have := HX.out.2; omega)).mono ?_
            rintro e w6 ⟨s6, rfl, t6, b6⟩
            obtain rfl : s6 = s4 := t6.uniq HX.out.1
            have HR6 : Aside0 (_ ∧ _) := ⟨HR.out.1.fr (Fr.of_below b6 (fun _ => False)) id, HR.out.2.trans (b6.mono HR.out.2.size)⟩
            clear t6 b6 HR
            go_wp2_with fail
            refine (rd_at _ r s6 p HR6.out.1 (by omega)).mono ?_
            rintro e w7 ⟨rfl, ⟨nd, rfl⟩⟩
            have HR7 : Aside0 (_ ∧ _) := ⟨HR6.out.1.drawn ⟨nd, rfl⟩, pw_below_drewN HR6.out.2 nd⟩
            clear HR6
            go_wp2_with fail
            refine (HGG.out _ HR7.out.1).mono ?_
            rintro e w8 ⟨rfl, hr8, f8⟩
            have HR8 : Aside0 (_ ∧ _) := ⟨hr8, HR7.out.2.trans (f8.below (B := w4.heap.size) (by rintro k rfl; exact HRR.out) HR7.out.2.size)⟩
            clear hr8 f8 HR7 HGG
            go_wp2_with fail
            refine (rd_at _ r s6 (8 * s6.size) HR8.out.1 (by omega)).mono ?_
            rintro e w9 ⟨rfl, ⟨nd9, rfl⟩⟩
            have HB9 := Aside0.mk (pw_below_drewN HR8.out.2 nd9)
            clear HR8
            go_wp2_with fail
            refine (wr_text _ _ _ _ _ _ (HT4.out.wr_.below HB9.out) (by have := HX.out.2; omega)).mono ?_
            rintro e w10 ⟨s9, rfl, t9, b9⟩
            obtain rfl : s9 = s6 := t9.uniq HX.out.1
            have HB10 := Aside0.mk (HB9.out.trans (b9.mono HB9.out.size))
            clear t9 b9 HB9
            go_wp2_with fail
            refine (rows_true _).mono ?_
            rintro e w11 ⟨rfl, b11⟩
            have HB11 := Aside0.mk (HB10.out.trans (b11.mono HB10.out.size))
            clear b11 HB10
            go_wp2_with fail
            go_returns
            exact ⟨rfl, HT4.out.below.trans (HB11.out.mono HT4.out.below.size)⟩
end Go.Proofs.Ytcphjcggnblnkaa.Hand
