/- binderylaw09.CodesBack answers true: walked by hand over the contracts of layer 9. -/
import Derived.Test.YtcphjcggnblnkaaHand09t
import Derived.Handy
namespace Go.Proofs.Ytcphjcggnblnkaa.Hand
open Go.RowKit Go.Proofs.YtcphjcggnblnkaaW.PrintWords Go.Proofs.YtcphjcggnblnkaaW.PrintLast Go.Proofs.YtcphjcggnblnkaaW.PrintMore Go.Proofs.Ytcphjcggnblnkaa.Num Go.Proofs.Ytcphjcggnblnkaa.Bits Go.Proofs.Ytcphjcggnblnkaa.P09r
set_option linter.unusedVariables false
set_option linter.unusedSimpArgs false
theorem twrite_ok' (W : World) (B tb g k : Nat) (l L : List Int) (hm : mayF l = 0) (hT : Tr W B tb l) (hW : WrAt W B g 28 [] L) (hB : B ≤ W.heap.size) (hk : k < l.length) (n : Nat) (hn : l.getD k 0 = (n : Int)) (h0 : 0 < n) (hL : L.length ≤ 10000000) :
    Calls Try.prog 37 #[.pointer (some ⟨tb, 0, none⟩), .pointer (some ⟨g, 0, none⟩), .int .i64 (k : Int)] W fun e w' => e = .returned (.int .i64 0) ∧ WrAt w' B g 28 [] (L ++ revB ((codesF l).getD k 0) n) ∧ Fr W w' (SU B g W) := by
  obtain ⟨c1, c2, c3, c4, c5⟩ := code_between hm k hk n hn h0
  have hp := pow_le2 (show n ≤ 15 by omega)
  exact write_ok W B tb g l (codesF l) (cntL l) (symA l 16) (lgA l 16) k n L hT hW hB hk (by rw [codesF_length hm]; exact hk) hn (by omega) c3 c5 (by omega) hL
/-- The bits of symbols. -/
def bitsOf (l M : List Int) : List Int := M.flatMap (fun k => revB ((codesF l).getD k.toNat 0) (l.getD k.toNat 0).toNat)
def Ok9 (l : List Int) (k : Int) : Prop := 0 ≤ k ∧ k < l.length ∧ 0 < l.getD k.toNat 0
theorem bitsOf_len (l : List Int) (hx : ∀ x ∈ l, 0 ≤ x ∧ x ≤ 15) : ∀ M : List Int, (bitsOf l M).length ≤ 15 * M.length
  | [] => by simp [bitsOf]
  | k :: M => by
    have h := bitsOf_len l hx M
    have e : bitsOf l (k :: M) = revB ((codesF l).getD k.toNat 0) (l.getD k.toNat 0).toNat ++ bitsOf l M := rfl
    have hk : l.getD k.toNat 0 ≤ 15 := by
      rw [List.getD_eq_getElem?_getD]
      cases hc : l[k.toNat]? with
      | none => simp
      | some z => exact (hx z (List.mem_of_getElem? hc)).2
    rw [e, List.length_append, revB_length, List.length_cons]
    omega
theorem bitsOf_snoc (l M : List Int) (k : Int) : bitsOf l (M ++ [k]) = bitsOf l M ++ revB ((codesF l).getD k.toNat 0) (l.getD k.toNat 0).toNat := by simp [bitsOf]
theorem bitsOf_at (l M : List Int) (j : Nat) (h : j < M.length) : bitsOf l M = bitsOf l (M.take j) ++ revB ((codesF l).getD (M.getD j 0).toNat 0) (l.getD (M.getD j 0).toNat 0).toNat ++ bitsOf l (M.drop (j + 1)) := by
  have e : M = M.take j ++ (M.getD j 0 :: M.drop (j + 1)) := by
    rw [List.getD_eq_getElem?_getD, List.getElem?_eq_getElem h, Option.getD_some, ← List.drop_eq_getElem_cons h, List.take_append_drop]
  conv => lhs; rw [e]
  simp [bitsOf]
/-- A written symbol is read. -/
theorem back_read {l : List Int} (hm : mayF l = 0) {M : List Int} (hM : ∀ k ∈ M, Ok9 l k) {s : ByteArray} (hs : TextOf (bitsOf l M) s) (j : Nat) (hj : j < M.length) :
    rdS s l (bitsOf l (M.take j)).length = (M.getD j 0, 0, (bitsOf l (M.take (j + 1))).length) ∧ (bitsOf l (M.take (j + 1))).length ≤ 8 * s.size := by
  have hk : M.getD j 0 ∈ M := by rw [List.getD_eq_getElem?_getD, List.getElem?_eq_getElem hj]; exact List.getElem_mem _
  have hok := hM _ hk
  have hat := bitsOf_at l M j hj
  have htk : bitsOf l (M.take (j + 1)) = bitsOf l (M.take j) ++ revB ((codesF l).getD (M.getD j 0).toNat 0) (l.getD (M.getD j 0).toNat 0).toNat := by rw [take_succ9 M j hj, bitsOf_snoc]
  unfold Ok9 at hok
  obtain ⟨k, hke⟩ := Int.eq_ofNat_of_zero_le hok.1
  rw [hke, Int.toNat_natCast] at hat htk hok
  obtain ⟨n, hn⟩ := Int.eq_ofNat_of_zero_le (Int.le_of_lt hok.2.2)
  rw [hn, Int.toNat_natCast] at hat htk
  rw [hke, htk, List.length_append, revB_length]
  have hsz := hs.size
  have hlen := congrArg List.length hat
  rw [List.length_append, List.length_append, revB_length] at hlen
  have hle : (bitsOf l (M.take j)).length + n ≤ 8 * s.size := by omega
  refine ⟨?_, hle⟩
  obtain ⟨lg, hlg, h15⟩ := lgA_nat l
  unfold rdS
  rw [hlg, Int.toNat_natCast]
  refine rd_back0 hm s k n (by omega) hn (by omega) lg hlg _ hle (fun q hq => ?_)
  rw [val_one, hs.bit _ (by omega), hat, List.getD_eq_getElem?_getD, List.append_assoc, List.getElem?_append_right (by omega), Nat.add_sub_cancel_left, List.getElem?_append_left (by rw [revB_length]; exact hq), ← List.getD_eq_getElem?_getD]
/-- A tree whose rows lie ahead of U. -/
structure TreeU (w : World) (B U tb : Nat) (ls cs many syms : List Int) (lg : Int) : Prop where
  open_ : ∃ vl vc vs, w.heap[tb]? = some (.cells (vl :: vc :: (nums .i64 many ++ [vs, .int .i64 lg])).toArray 85 (0, 0)) ∧ Row w B 3 .i64 vl ls ∧ Row w B 3 .i64 vc cs ∧ Row w B 3 .i64 vs syms ∧
    (∀ k, vl.ownBlock = some k → k < U) ∧ (∀ k, vc.ownBlock = some k → k < U) ∧ (∀ k, vs.ownBlock = some k → k < U)
  ml : many.length = 16
theorem TreeAt.up {w : World} {B tb : Nat} {ls cs many syms : List Int} {lg : Int} (h : TreeAt w B tb ls cs many syms lg) : TreeU w B w.heap.size tb ls cs many syms lg := by
  obtain ⟨⟨vl, vc, vs, h0, h1, h2, h3⟩, hm⟩ := h
  exact ⟨⟨vl, vc, vs, h0, h1, h2, h3, fun k hk => (h1.lt k hk).2, fun k hk => (h2.lt k hk).2, fun k hk => (h3.lt k hk).2⟩, hm⟩
theorem TreeU.at_ {w : World} {B U tb : Nat} {ls cs many syms : List Int} {lg : Int} (h : TreeU w B U tb ls cs many syms lg) : TreeAt w B tb ls cs many syms lg := by
  obtain ⟨⟨vl, vc, vs, h0, h1, h2, h3, _⟩, hm⟩ := h
  exact ⟨⟨vl, vc, vs, h0, h1, h2, h3⟩, hm⟩
theorem TreeU.below {w w1 : World} {B U tb : Nat} {ls cs many syms : List Int} {lg : Int} (h : TreeU w B U tb ls cs many syms lg) (hb : Below w.heap.size w w1) : TreeU w1 B U tb ls cs many syms lg := by
  obtain ⟨⟨vl, vc, vs, h0, h1, h2, h3, h4⟩, hm⟩ := h
  exact ⟨⟨vl, vc, vs, blk_below h0 hb, h1.below hb, h2.below hb, h3.below hb, h4⟩, hm⟩
theorem TreeU.drawn {w w1 : World} {B U tb : Nat} {ls cs many syms : List Int} {lg : Int} (h : TreeU w B U tb ls cs many syms lg) (hd : Drawn0 w w1) : TreeU w1 B U tb ls cs many syms lg := by
  obtain ⟨n, rfl⟩ := hd.out; exact ⟨h.open_, h.ml⟩
theorem TreeU.fr {w w1 : World} {B U tb g : Nat} {ls cs many syms : List Int} {lg : Int} {post : List Value} {L : List Int} (h : TreeU w B U tb ls cs many syms lg) (hW : WrAt w B g 28 post L) (hf : Fr w w1 (SU B g w)) : TreeU w1 B U tb ls cs many syms lg := by
  have hne := h.at_.ne hW
  obtain ⟨⟨vl, vc, vs, h0, h1, h2, h3, h4⟩, hm⟩ := h
  exact ⟨⟨vl, vc, vs, hf.blk h0 hne, h1.fr hf (row_su h1 hW), h2.fr hf (row_su h2 hW), h3.fr hf (row_su h3 hW), h4⟩, hm⟩
theorem TreeU.frR {w w1 : World} {B U tb g : Nat} {ls cs many syms : List Int} {lg : Int} {s : ByteArray} {p : Nat} (h : TreeU w B U tb ls cs many syms lg) (hR : RdAt w g s p) (hf : Fr w w1 (· = g)) : TreeU w1 B U tb ls cs many syms lg := by
  have hne := h.at_.neR hR
  obtain ⟨⟨vl, vc, vs, h0, h1, h2, h3, h4⟩, hm⟩ := h
  exact ⟨⟨vl, vc, vs, hf.blk h0 hne, h1.fr hf (TreeAt.rowR h1 hR), h2.fr hf (TreeAt.rowR h2 hR), h3.fr hf (TreeAt.rowR h3 hR), h4⟩, hm⟩
/-- It outlasts an append to a row that lies behind. -/
theorem TreeU.grown {w w1 : World} {B U tb : Nat} {ls cs many syms : List Int} {lg : Int} {v : Value} {xs : List Int} (h : TreeU w B U tb ls cs many syms lg) (hr : Row w U 3 .i64 v xs) (hg : w.grownBy w1 v.ownBlock) : TreeU w1 B U tb ls cs many syms lg := by
  obtain ⟨⟨vl, vc, vs, h0, h1, h2, h3, h4, h5, h6⟩, hm⟩ := h
  have hf := Fr.of_grown hg
  have key : ∀ u : Value, (∀ k, u.ownBlock = some k → k < U) → ∀ k, u.ownBlock = some k → ¬ v.ownBlock = some k := fun u hu k hk hv => by
    have := hu k hk
    have := (hr.lt k hv).1
    omega
  exact ⟨⟨vl, vc, vs, hf.blk h0 (fun hv => hr.ne_blk h0 (by decide) tb hv rfl), h1.fr hf (key vl h4), h2.fr hf (key vc h5), h3.fr hf (key vs h6), h4, h5, h6⟩, hm⟩
/-- What the law's loop holds. -/
structure BMid (w W : World) (v : Value) (l M L : List Int) (tb g U : Nat) : Prop where
  row : Row W U 3 .i64 v M
  tr : TreeU W w.heap.size U tb l (codesF l) (cntL l) (symA l 16) (lgA l 16)
  wr : WrAt W w.heap.size g 28 [] L
  below : Below w.heap.size w W
  gw : w.heap.size ≤ g
  uw : w.heap.size ≤ U
  uW : U ≤ W.heap.size
theorem BMid.below_ {w W W' : World} {v : Value} {l M L : List Int} {tb g U : Nat} (h : BMid w W v l M L tb g U) (hb : Below W.heap.size W W') : BMid w W' v l M L tb g U :=
  ⟨h.row.below hb, h.tr.below hb, h.wr.below hb, h.below.trans (hb.mono h.below.size), h.gw, h.uw, Nat.le_trans h.uW hb.size⟩
theorem BMid.drawn {w W W' : World} {v : Value} {l M L : List Int} {tb g U : Nat} (h : BMid w W v l M L tb g U) (hd : Drawn0 W W') : BMid w W' v l M L tb g U := by
  obtain ⟨n, rfl⟩ := hd.out
  exact ⟨h.row, h.tr.drawn ⟨n, rfl⟩, h.wr.drawn ⟨n, rfl⟩, pw_below_drewN h.below n, h.gw, h.uw, h.uW⟩
theorem BMid.wrote {w W W' : World} {v : Value} {l M L L' : List Int} {tb g U : Nat} (h : BMid w W v l M L tb g U) (k : WrAt W' w.heap.size g 28 [] L') (hf : Fr W W' (SU w.heap.size g W)) : BMid w W' v l M L' tb g U :=
  ⟨h.row.fr hf (row_su (h.row.lower h.uw) h.wr), h.tr.fr h.wr hf, k, h.below.trans (hf.suBelow h.gw (Nat.le_refl _) h.below.size), h.gw, h.uw, Nat.le_trans h.uW hf.size⟩
/-- Behind an append to the row. -/
theorem BMid.app {w W W' : World} {v v' : Value} {l M L : List Int} {tb g U : Nat} {M' : List Int} {ob : Obj} (h : BMid w W v l M L tb g U) (hap : App (W.alloc ob) W' U 3 .i64 v v' M') : BMid w W' v' l M' L tb g U := by
  have hr1 := h.row.alloc ob
  have hb1 : Below W.heap.size W (W.alloc ob) := below_alloc (Below.refl _ _) ob
  have hbel := hap.below1 h.row h.uW
  have hf := Fr.of_grown hap.grown
  refine ⟨hap.row, (h.tr.below hb1).grown hr1 hap.grown, (h.wr.below hb1).fr hf ?_ ?_, h.below.trans (hbel.mono h.uw), h.gw, h.uw, Nat.le_trans h.uW hbel.size⟩
  · obtain ⟨x, m, u, xs, q1, _⟩ := (h.wr.below hb1).open_
    exact fun hv => hr1.ne_blk q1 (by decide) g hv rfl
  · rintro k ⟨cs, fr, hc⟩ hv
    exact hr1.ne_blk hc (by decide) k hv rfl
theorem BMid.read {w W W' : World} {v : Value} {l M L : List Int} {tb g U r : Nat} {s : ByteArray} {p : Nat} (h : BMid w W v l M L tb g U) (hR : RdAt W r s p) (hr : w.heap.size ≤ r) (hf : Fr W W' (· = r)) : BMid w W' v l M L tb g U :=
  ⟨h.row.fr hf (TreeAt.rowR h.row hR), h.tr.frR hR hf, h.wr.frR hR hf, h.below.trans (hf.below (by rintro j rfl; exact hr) h.below.size), h.gw, h.uw, Nat.le_trans h.uW hf.size⟩
set_option maxRecDepth 100000 in
set_option maxHeartbeats 4000000 in
theorem codesBack_core (A : Option Addr) (c : Nat) (l : List Int) (A0 : Option Addr) (c0 : Nat) (sy : List Int) (w : World) (hr : ReadsInt w .i64 A l.length l) (hc : l.length ≤ c) (hm : l.length ≤ maxLen) (hr0 : ReadsInt w .i64 A0 sy.length sy) (hc0 : sy.length ≤ c0) (hm0 : sy.length ≤ maxLen) :
    Calls Try.prog 10 #[.slice A l.length c, .slice A0 sy.length c0] w fun e w' => e = .returned (.bool true) ∧ Below w.heap.size w w' := by
  have hml := hm
  have hml0 := hm0
  unfold maxLen at hml hml0
  by_cases h1 : 320 < l.length ∨ 60 < sy.length
  · clear hm hr hm0 hr0
    by_cases h2 : 320 < l.length
    · have q2 : decide ((320 : Int) < (l.length : Int)) = true := decide_eq_true (by omega)
      have q2n : decide (320 < l.length) = true := decide_eq_true h2
      clear h1 hml hml0
      go_enter Try.func10, Try.ntmps10
      go_wp2_with fail
      refine (trees_true _).mono ?_
      rintro e w1 ⟨rfl, hb1⟩
      go_wp2_with fail
      go_returns
      exact ⟨rfl, hb1⟩
    · have q2 : decide ((320 : Int) < (l.length : Int)) = false := decide_eq_false (by omega)
      have q2n : decide (320 < l.length) = false := decide_eq_false h2
      have q3 : decide ((60 : Int) < (sy.length : Int)) = true := decide_eq_true (by omega)
      have q3n : decide (60 < sy.length) = true := decide_eq_true (by omega)
      clear h1 hml hml0
      go_enter Try.func10, Try.ntmps10
      go_wp2_with fail
      refine (trees_true _).mono ?_
      rintro e w1 ⟨rfl, hb1⟩
      go_wp2_with fail
      go_returns
      exact ⟨rfl, hb1⟩
  · have q2 : decide ((320 : Int) < (l.length : Int)) = false := decide_eq_false (by omega)
    have q2n : decide (320 < l.length) = false := decide_eq_false (by omega)
    have q3 : decide ((60 : Int) < (sy.length : Int)) = false := decide_eq_false (by omega)
    have q3n : decide (60 < sy.length) = false := decide_eq_false (by omega)
    have hs60 : sy.length ≤ 60 := by omega
    have HR := Aside0.mk hr
    have HR0 := Aside0.mk hr0
    by_cases hm1 : mayF l = 0
    · have HM := Aside0.mk hm1
      have K3 := Aside0.mk (new_ok A c l w hr hc hm1)
      clear hm1 hr hm h1 hr0 hm0 hml hml0
      go_enter Try.func10, Try.ntmps10
      go_wp2_with fail
      refine K3.out.mono ?_
      rintro e w1 ⟨tb, rfl, ht, htb, hb1⟩
      have M0 : Aside0 (BMid w (w1.alloc (.cells #[.int .i64 0, .int .i64 0, .slice none 0 0] 28)) (.slice none 0 0) l [] (bitsOf l []) tb w1.heap.size w1.heap.size) :=
        ⟨⟨Row.nil _ _ _ _, ht.up.below (below_alloc (Below.refl _ _) _), WrAt.new w1 _, below_alloc hb1 _, hb1.size, hb1.size, by simp⟩⟩
      clear ht htb hb1 K3
      go_wp2_with fail
      obtain ⟨g, hg⟩ : ∃ g, g = w1.heap.size := ⟨_, rfl⟩
      rw [← hg] at M0 ⊢
      clear hg
      go_loopw [8, 9] (fun v8 v9 wr => ∃ (i : Nat) (v : Value) (M : List Int), v = v8 ∧ i ≤ sy.length ∧ v9 = .int .i64 i ∧ M.length ≤ i ∧ Aside0 (BMid w wr v l M (bitsOf l M) tb g g ∧ ∀ k ∈ M, Ok9 l k)) (fun _ v9 _ => sy.length - (intOf v9).toNat)
      case atStart => exact ⟨0, _, [], rfl, by omega, rfl, by simp, M0.out, by simp⟩
      case round =>
        clear M0
        obtain ⟨i, v, M, rfl, hi, rfl, hM, HW⟩ := hrel
        by_cases hlt : i < sy.length
        · have r1 : decide ((i : Int) < (sy.length : Int)) = true := decide_eq_true (by omega)
          have r1n : decide (i < sy.length) = true := decide_eq_true hlt
          obtain ⟨ad, had, hcell⟩ := ReadsInt.at_ HR0.out (i : Int) (by omega) (by omega)
          cases had
          obtain ⟨k, hk⟩ : ∃ k, k = rd sy (i : Int) := ⟨_, rfl⟩
          rw [Int.toNat_natCast, ← hk] at hcell
          have D0 : Aside0 (∀ W, Below w.heap.size w W → W.cell? (ad.add i) = some (.int .i64 k)) := ⟨fun W hb => (hb.cell (World.block_lt_of_cell? w _ hcell)).trans hcell⟩
          have d0 := D0.out wr HW.out.1.below
          have hbl := bitsOf_len l (may_zero HM.out).2 M
          have hL2 : (bitsOf l M).length ≤ 10000000 := by omega
          clear hk hcell hbl
          have b1 : ((12 : Int) == 0) = false := by decide
          by_cases hno : k < 0 ∨ (l.length : Int) ≤ k ∨ (0 ≤ k ∧ k < l.length ∧ l.getD k.toNat 0 = 0)
          · have KW := Aside0.mk (write_none wr w.heap.size tb g _ _ _ _ _ k HW.out.1.tr.at_ hno)
            clear hno
            go_wp2_with fail
            refine KW.out.mono ?_
            rintro e w3 ⟨rfl, d3⟩
            have HW3 := Aside0.mk (And.intro (HW.out.1.drawn d3) HW.out.2)
            clear d3 HW KW
            go_wp2_with fail
            go_roundw
            case rel => exact ⟨i + 1, _, M, rfl, by omega, by go_num, by omega, HW3⟩
            case measure => simp [intOf]; omega
          · obtain ⟨m, rfl⟩ := Int.eq_ofNat_of_zero_le (show 0 ≤ k by omega)
            have hml : m < l.length := by omega
            rw [Int.toNat_natCast] at hno
            have hx := (may_zero HM.out).2 (l.getD m 0) (by rw [List.getD_eq_getElem?_getD, List.getElem?_eq_getElem hml]; exact List.getElem_mem _)
            obtain ⟨n, hn⟩ := Int.eq_ofNat_of_zero_le hx.1
            have hn0 : 0 < n := by omega
            have KW := Aside0.mk (twrite_ok' wr w.heap.size tb g m l (bitsOf l M) HM.out HW.out.1.tr.at_ HW.out.1.wr HW.out.1.below.size hml n hn hn0 hL2)
            have hsn := bitsOf_snoc l M (m : Int)
            rw [Int.toNat_natCast, hn, Int.toNat_natCast] at hsn
            rw [← hsn] at KW
            have HOK : Aside0 (Ok9 l (m : Int)) := ⟨⟨by omega, by omega, by rw [Int.toNat_natCast, hn]; omega⟩⟩
            clear hno hx hn hsn
            go_wp2_with fail
            refine KW.out.mono ?_
            rintro e w3 ⟨rfl, h3, f3⟩
            have HW3 := Aside0.mk (HW.out.1.wrote h3 f3)
            have HMM := Aside0.mk HW.out.2
            clear h3 f3 HW KW d0
            have d1 := D0.out w3 HW3.out.below
            have hgs := HW3.out.uW
            have hl1 : M.length + 1 ≤ maxLen := by unfold maxLen; omega
            have hl2 : (M.length + 1) * 8 ≤ 140737488355328 := by omega
            have hBx : g ≤ (w3.alloc (.cells #[.int .i64 (m : Int)] 3)).heap.size := by simp; omega
            go_wp2_with (at_builtin; refine app_wp g rfl _ _ 29 3 .i64 8 rfl Try.underlying29 infoI649 v M [(m : Int)] rfl ⟨w3.heap.size, 0, none⟩ 1 1 rfl rfl (news_lit w3 .i64 [(m : Int)] _ _ (by rfl)) (HW3.out.row.alloc _) hBx hl1 hl2 ?_; intro v4 w4 hap)
            have HW4 := Aside0.mk (HW3.out.app hap)
            clear hap HW3 d1 hgs hBx
            go_roundw
            case rel => exact ⟨i + 1, _, M ++ [(m : Int)], rfl, by omega, by go_num, by rw [List.length_append, List.length_singleton]; omega, HW4.out, fun k hk => (List.mem_append.1 hk).elim (HMM.out k) (fun h => by rw [List.mem_singleton.1 h]; exact HOK.out)⟩
            case measure => simp [intOf]; omega
        · have r1 : decide ((i : Int) < (sy.length : Int)) = false := decide_eq_false (by omega)
          have r1n : decide (i < sy.length) = false := decide_eq_false hlt
          have hbl := bitsOf_len l (may_zero HM.out).2 M
          have hL3 : (bitsOf l M).length ≤ 900 := by omega
          obtain ⟨A3, n3, c3, hv3, hn3⟩ := HW.out.1.row.shape
          subst hv3
          obtain rfl := hn3.out
          clear hn3 hbl
          go_wp2_with fail
          refine (wr_text _ _ _ _ _ _ HW.out.1.wr (by omega)).mono ?_
          rintro e w4 ⟨s, rfl, t4, b4⟩
          have HT4 := Aside0.mk (And.intro (HW.out.1.below_ b4) HW.out.2)
          have hsz := t4.size
          have HX := Aside0.mk t4
          clear t4 b4 HW
          go_wp2_with fail
          refine (rd_new _ _).mono ?_
          rintro e w5 ⟨rfl, h5, f5⟩
          have HT5 : Aside0 (BMid w w5 (.slice A3 M.length c3) l M (bitsOf l M) tb g g ∧ RdAt w5 w4.heap.size s 0 ∧ w.heap.size ≤ w4.heap.size) := ⟨HT4.out.1.below_ f5, h5, HT4.out.1.below.size⟩
          have HB := Aside0.mk (fun j hj => back_read HM.out HT4.out.2 HX.out j hj)
          have hs : s.size ≤ 1000 := by omega
          clear h5 f5 HT4 hsz
          generalize w4.heap.size = r at HT5 ⊢
          go_wp2_with fail
          clear HX HR HR0
          go_loopw [11] (fun v11 wr => ∃ (j : Nat), j ≤ M.length ∧ v11 = .int .i64 j ∧ Aside0 (BMid w wr (.slice A3 M.length c3) l M (bitsOf l M) tb g g ∧ RdAt wr r s (bitsOf l (M.take j)).length ∧ w.heap.size ≤ r)) (fun v11 _ => M.length - (intOf v11).toNat)
          case atStart => exact ⟨0, by omega, rfl, ⟨HT5.out⟩⟩
          case round =>
            clear HT5
            obtain ⟨j, hj, rfl, HW⟩ := hrel
            by_cases hlj : j < M.length
            · have r2 : decide ((j : Int) < (M.length : Int)) = true := decide_eq_true (by omega)
              have r2n : decide (j < M.length) = true := decide_eq_true hlj
              obtain ⟨hrd, hle⟩ := HB.out j hlj
              have KR := Aside0.mk (tread_calls wr w.heap.size tb r l s _ HM.out HW.out.1.tr.at_ HW.out.2.1 (by omega))
              rw [hrd] at KR
              dsimp only at KR
              obtain ⟨k, hk⟩ : ∃ k, k = M.getD j 0 := ⟨_, rfl⟩
              rw [← hk] at KR
              have HK := Aside0.mk hk
              have e1 : (k != k) = false := by simp
              clear hrd hle hk
              go_wp2_with fail
              refine KR.out.mono ?_
              rintro e w6 ⟨rfl, h6, f6⟩
              have HW6 : Aside0 (BMid w w6 (.slice A3 M.length c3) l M (bitsOf l M) tb g g ∧ RdAt w6 r s (bitsOf l (M.take (j + 1))).length ∧ w.heap.size ≤ r) := ⟨HW.out.1.read HW.out.2.1 HW.out.2.2 f6, h6, HW.out.2.2⟩
              clear h6 f6 HW KR
              obtain ⟨ad, had, hcell⟩ := ReadsInt.at_ (reads_kdC (Row.kdC HW6.out.1.row).2.2) (j : Int) (by omega) (by omega)
              cases had
              rw [Int.toNat_natCast, rd_nat, ← HK.out] at hcell
              go_wp2_with fail
              go_roundw
              case rel => exact ⟨j + 1, by omega, by go_num, HW6⟩
              case measure => simp [intOf]; omega
            · have r2 : decide ((j : Int) < (M.length : Int)) = false := decide_eq_false (by omega)
              have r2n : decide (j < M.length) = false := decide_eq_false hlj
              obtain rfl : j = M.length := by omega
              rw [List.take_length] at HW
              obtain ⟨bn, hbn⟩ : ∃ bn, bn = (bitsOf l M).length := ⟨_, rfl⟩
              have K1 := fun (W : World) (h : RdAt W r s (bitsOf l M).length) => rd_at W r s _ h (by omega)
              have K2 := fun (W : World) (h : WrAt W w.heap.size g 28 [] (bitsOf l M)) => wr_len W _ g _ _ _ h (by omega)
              rw [← hbn] at K1
              simp only [← hbn] at K2
              rw [← hbn] at HW
              have K1 := Aside0.mk K1
              have K2 := Aside0.mk K2
              have e1 : ((bn : Int) == (bn : Int)) = true := beq_self_eq_true _
              clear hbn HB
              go_wp2_with fail
              refine (K1.out _ HW.out.2.1).mono ?_
              rintro e w6 ⟨rfl, d6⟩
              have HW6 := Aside0.mk (HW.out.1.drawn d6)
              clear d6 HW K1
              go_wp2_with fail
              refine (K2.out _ HW6.out.wr).mono ?_
              rintro e w7 ⟨rfl, d7⟩
              have HW7 := Aside0.mk (HW6.out.drawn d7)
              clear d7 HW6 K2
              go_wp2_with fail
              refine (trees_true _).mono ?_
              rintro e w8 ⟨rfl, hb8⟩
              go_wp2_with fail
              go_returns
              exact ⟨rfl, HW7.out.below.trans (hb8.mono HW7.out.below.size)⟩
    · have K3 := Aside0.mk (new_bad A c l w hr hc hm1)
      obtain ⟨my, hmy⟩ : ∃ my, my = mayF l := ⟨_, rfl⟩
      rw [← hmy] at K3 hm1
      have e5 : (my != 0) = true := by simpa using hm1
      clear hm1 hr hm h1 hmy hr0 hm0 hml hml0 hs60
      go_enter Try.func10, Try.ntmps10
      go_wp2_with fail
      refine K3.out.mono ?_
      rintro e w1 ⟨rfl, hb1⟩
      go_wp2_with fail
      refine (trees_true _).mono ?_
      rintro e w8 ⟨rfl, hb8⟩
      go_wp2_with fail
      go_returns
      exact ⟨rfl, hb1.trans (hb8.mono hb1.size)⟩
theorem codesBack_walk (a0 : Option Addr) (len0 cap0 : Nat) (z0 : List Int) (a1 : Option Addr) (len1 cap1 : Nat) (z1 : List Int) (w : World) (w0 : (a0 = none ∧ len0 = 0 ∧ cap0 = 0 ∧ z0 = []) ∨ ∃ x, a0 = some x ∧ len0 ≤ cap0 ∧ cap0 ≤ maxLen ∧ z0.length = cap0 ∧ (∀ i, i < z0.length → w.cell? (x.add i) = some (.int .i64 (z0.getD i 0))) ∧ ∀ n ∈ z0, (Lit.int .i64 n).wf = true) (y0 : len0 * 8 ≤ 140737488351232)
    (w1 : (a1 = none ∧ len1 = 0 ∧ cap1 = 0 ∧ z1 = []) ∨ ∃ x, a1 = some x ∧ len1 ≤ cap1 ∧ cap1 ≤ maxLen ∧ z1.length = cap1 ∧ (∀ i, i < z1.length → w.cell? (x.add i) = some (.int .i64 (z1.getD i 0))) ∧ ∀ n ∈ z1, (Lit.int .i64 n).wf = true) (y1 : len1 * 8 ≤ 140737488351232) :
    Calls Try.prog 10 #[.slice a0 len0 cap0, .slice a1 len1 cap1] w fun e w' => e = .returned (.bool true) ∧ Below w.heap.size w w' := by
  obtain ⟨l0, rfl, hr0, hm0, hw0, hc0⟩ := ReadsInt.ofRowC w0
  obtain ⟨l1, rfl, hr1, hm1, hw1, hc1⟩ := ReadsInt.ofRowC w1
  exact codesBack_core a0 cap0 l0 a1 cap1 l1 w hr0 hc0 hm0 hr1 hc1 hm1
end Go.Proofs.Ytcphjcggnblnkaa.Hand
