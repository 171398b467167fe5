/- Codes: a tree is made; walked by hand. -/
import Derived.Test.YtcphjcggnblnkaaHand09r
import Derived.Handy
namespace Go.Proofs.Ytcphjcggnblnkaa.Hand
open Go.RowKit Go.Proofs.YtcphjcggnblnkaaW.PrintWords Go.Proofs.YtcphjcggnblnkaaW.PrintLast Go.Proofs.YtcphjcggnblnkaaW.PrintMore Go.Proofs.Ytcphjcggnblnkaa.Num
set_option linter.unusedVariables false
set_option linter.unusedSimpArgs false
set_option maxRecDepth 100000 in
set_option maxHeartbeats 4000000 in
theorem new_bad (A : Option Addr) (c : Nat) (l : List Int) (w : World) (hr : ReadsInt w .i64 A l.length l) (hc : l.length ≤ c) (hm : mayF l ≠ 0) :
    Calls Try.prog 30 #[.slice A l.length c] w fun e w' => e = .returned (.tuple #[.pointer none, .int .i64 (mayF l)]) ∧ Below w.heap.size w w' := by
  have HK := Aside0.mk (codes_calls A c l w hr hc)
  obtain ⟨x, hx⟩ : ∃ x, x = mayF l := ⟨_, rfl⟩
  rw [← hx] at HK hm ⊢
  have q1 : (x != 0) = true := by simpa using hm
  clear hr hm hx
  go_enter Try.func30, Try.ntmps30
  go_wp2_with fail
  refine HK.out.mono ?_
  rintro e w1 ⟨v, rfl, hr1, hb1⟩
  go_wp2_with fail
  go_returns
  exact ⟨rfl, hb1⟩
/-- The symbols of one length among the first so many; the symbols of all lengths below; the longest of these. -/
def symP (l : List Int) (n i : Nat) : List Int := ((List.range i).filter (fun j => l.getD j 0 == (n : Int))).map (fun j : Nat => (j : Int))
def symA (l : List Int) : Nat → List Int
  | 0 => []
  | 1 => []
  | n + 2 => symA l (n + 1) ++ symP l (n + 1) l.length
def lgP (lg : Int) (l : List Int) (n i : Nat) : Int := if symP l n i = [] then lg else n
def lgA (l : List Int) : Nat → Int
  | 0 => 0
  | 1 => 0
  | n + 2 => lgP (lgA l (n + 1)) l (n + 1) l.length
theorem symP_succ (l : List Int) (n i : Nat) : symP l n (i + 1) = if l.getD i 0 = (n : Int) then symP l n i ++ [(i : Int)] else symP l n i := by
  unfold symP
  rw [List.range_succ, List.filter_append, List.map_append]
  by_cases h : l.getD i 0 = (n : Int)
  · rw [if_pos h, List.filter_cons_of_pos (by simpa using h)]; rfl
  · rw [if_neg h, List.filter_cons_of_neg (by simpa using h)]; simp
theorem symP_length (l : List Int) (n i : Nat) : (symP l n i).length ≤ i := by
  unfold symP
  rw [List.length_map]
  exact Nat.le_trans (List.length_filter_le _ _) (by simp)
theorem symA_length (l : List Int) : ∀ n, (symA l n).length ≤ n * l.length
  | 0 => by simp [symA]
  | 1 => by simp [symA]
  | n + 2 => by
    have h := symA_length l (n + 1)
    have h2 := symP_length l (n + 1) l.length
    rw [symA, List.length_append, Nat.add_mul (n + 1) 1, Nat.one_mul]
    omega
/-- Bytes handed over by a slice that may be nil. -/
theorem run_append_none' {P : Program} {w : World} (base : Nat) (t ty e : TypeId) (i : TypeInfo) (size c : Nat) (ht : P.underlying t = some (.slice e)) (hi : P.info? e = some i)
    (v : Value) (n : Nat) (xs : List Value) (hown : w.ownsRow base e size v n xs) :
    (Builtin.append_ #[t, t] ty #[v, .slice none 0 c]).run P w = .ok v w := by
  rcases hown.2 with ⟨rfl, rfl⟩ | ⟨g, cap, cur, rfl, _, _, hnc, _⟩
  · simp [Builtin.append_, run_underlying ht, sizeOf, typeInfo, hi, Builtin.lenOf, Builtin.firstCells]
  · simp [Builtin.append_, run_underlying ht, sizeOf, typeInfo, hi, Builtin.lenOf, Builtin.firstCells, hnc, storeCells]
theorem app_stepR {P : Program} {o : Oper} {a : Act} {ops : Array Oper} {W : World} {K : Act → World → Prop} {Q : Exit → Act → World → Prop} {E : Prop} (B : Nat) (hgd : o.guard = none) (s x : Operand) (t e : TypeId) (k : IntKind) (bytes : Nat)
    (ho : o.op = .call { callee := .builtin .append, args := #[s, x], argTypes := #[t, t] })
    (ht : P.underlying t = some (.slice e)) (hinfo : (P.info? e).map (fun i => (i.zero, i.size, i.bytes)) = some (some (.int k 0), 1, bytes))
    (v : Value) (xs ys : List Int) (hs : a.eval s = v) (A : Option Addr) (m c : Nat) (hx : a.eval x = .slice A m c) (hm : ys.length = m) (hno : A = none → ys = [])
    (hnews : ∀ ad, A = some ad → ∀ j u, (nums k ys)[j]? = some u → W.cell? (ad.add j) = some u) (HO : Row W B e k v xs) (hB : B ≤ W.heap.size) (h63 : xs.length + m ≤ maxLen) (hl : (xs.length + m) * bytes ≤ 140737488355328)
    (h : ∀ v1 w1, App W w1 B e k v v1 (xs ++ ys) → K (a.put o.dst v1) w1) :
    if Region.wanted o (yielded ops a.tmps) = true then Oper.wp P o a W K Q else E := by
  cases A with
  | some ad => exact app_step B hgd s x t e k bytes ho ht hinfo v xs ys hs ad m c hx hm (hnews ad rfl) HO hB h63 hl h
  | none =>
    obtain rfl := hno rfl
    obtain rfl : 0 = m := hm
    have hw : Region.wanted o (yielded ops a.tmps) = true := by simp [Region.wanted, hgd]
    obtain ⟨i0, hi, hzz⟩ := Option.map_eq_some_iff.1 hinfo
    rw [if_pos hw]
    have hr := run_append_none' (P := P) (w := W) B t o.type e i0 1 c ht hi v xs.length (nums k xs) HO
    unfold Oper.wp execOp
    simp only [ho, resolve, invoke, builtin, Sem.run_bind, Sem.run_pure, Result.andThen_ok, List.map_toArray, List.map_cons, List.map_nil, hs, hx, hr]
    exact h v W ⟨by rw [List.append_nil]; exact HO, World.grownBy.refl _ _⟩
set_option maxRecDepth 100000 in
set_option maxHeartbeats 4000000 in
theorem new_ok (A : Option Addr) (c : Nat) (l : List Int) (w : World) (hr : ReadsInt w .i64 A l.length l) (hc : l.length ≤ c) (hm : mayF l = 0) :
    Calls Try.prog 30 #[.slice A l.length c] w fun e w' => ∃ tb, e = .returned (.tuple #[.pointer (some ⟨tb, 0, none⟩), .int .i64 0]) ∧ TreeAt w' w.heap.size tb l (codesF l) (cntL l) (symA l 16) (lgA l 16) ∧ w.heap.size ≤ tb ∧ Below w.heap.size w w' := by
  have HK := Aside0.mk (codes_calls A c l w hr hc)
  rw [hm] at HK
  have HR := Aside0.mk hr
  obtain ⟨hl, hx⟩ := may_zero hm
  have HX := Aside0.mk hx
  clear hr hm hx
  go_enter Try.func30, Try.ntmps30
  go_wp2_with fail
  refine HK.out.mono ?_
  rintro e w1 ⟨v, rfl, hr1, hb1⟩
  have HB1 := Aside0.mk hb1
  have HR1 := Aside0.mk (HR.out.below hb1)
  have HC1 := Aside0.mk hr1
  clear hb1 HK hr1
  go_wp2_with fail
  refine (counted_calls A l.length c l w1 rfl HR1.out hc).mono ?_
  rintro e w2 ⟨rfl, hb2⟩
  have HB2 := Aside0.mk (HB1.out.trans (hb2.mono HB1.out.size))
  have HR2 := Aside0.mk (HR1.out.below hb2)
  have HC2 := Aside0.mk (HC1.out.below hb2)
  have HL := Aside0.mk (cntL_length l)
  have HI := Aside0.mk (show (nums .i64 (cntL l)).length = 16 by rw [nums_length]; exact cntL_length l)
  obtain ⟨cs, hcs⟩ : ∃ cs, cs = cntL l := ⟨_, rfl⟩
  obtain ⟨ce, hce⟩ : ∃ ce, ce = cntE l := ⟨_, rfl⟩
  rw [← hcs] at HL HI
  rw [← hcs, ← hce]
  clear hb2 HB1 HR1 HC1 hce
  have HCS := Aside0.mk hcs
  clear hcs
  go_wp2_with (refine wpList_store_mid rfl 80 _ _ rfl w2.heap.size 0 (nums .i64 cs).toArray rfl rfl (arr_there (cs := nums .i64 zeros) (t := 80) (heap_alloc_new w2 _) _ (by rw [List.size_toArray, HI.out]; rfl)) (by rw [infoArr]; simpa using HI.out.symm) (all_oneCell_toArray (nums_one _ _)) ?_)
  generalize hW : (w2.alloc (.cells #[.int .i64 0, .int .i64 0, .int .i64 0, .int .i64 0, .int .i64 0, .int .i64 0, .int .i64 0, .int .i64 0, .int .i64 0, .int .i64 0, .int .i64 0, .int .i64 0, .int .i64 0, .int .i64 0, .int .i64 0, .int .i64 0] 80)).setCells w2.heap.size 0 (nums .i64 cs) = W3
  have hA : W3.heap[w2.heap.size]? = some (.cells (nums .i64 cs).toArray 80 (0, 0)) := by
    rw [← hW]; exact setCells_blk (cs := nums .i64 zeros) (heap_alloc_new w2 _) (by rw [HI.out]; rfl)
  have hB23 : Below w2.heap.size w2 W3 := by
    rw [← hW]
    exact ((Below.refl _ _).alloc (Nat.le_refl _) _).trans ((setCells_fr w2.heap.size (nums .i64 cs) 0 _).below (by rintro k rfl; exact Nat.le_refl _) (by simp))
  have HR3 := Aside0.mk (HR2.out.below hB23)
  have HC3 := Aside0.mk (HC2.out.below hB23)
  have HB3 := Aside0.mk (HB2.out.trans (hB23.mono HB2.out.size))
  have HA3 := Aside0.mk hA
  obtain ⟨b, hb⟩ : ∃ b, b = w2.heap.size := ⟨_, rfl⟩
  rw [← hb] at HA3 ⊢
  have r0 : W3.rangeAt b 0 (nums .i64 cs) := arr_range HA3.out
  have hu := Try.underlying80
  have hi : (Try.prog.info? 80).map (·.size) = some (nums .i64 cs).length := by rw [infoArr, HI.out]
  clear hW hA hB23 HB2 HC2 HR2 hb
  obtain ⟨Av, nv, mv, hv, hnv⟩ := HC3.out.shape
  subst hv
  have hbl := blk_lt HA3.out
  have HBL := Aside0.mk hbl
  clear hbl
  have hnone : A = none → l = [] := fun h => by
    cases l with
    | nil => rfl
    | cons z zs =>
      obtain ⟨ad, he, _⟩ := ReadsInt.at_ HR3.out ((0 : Nat) : Int) (by omega) (by simp)
      rw [h] at he
      cases he
  have hnews : ∀ (W : World), ReadsInt W .i64 A l.length l → ∀ ad, A = some ad → ∀ j u, (nums .i64 l)[j]? = some u → W.cell? (ad.add j) = some u := fun W h ad hA => by
    subst hA
    intro j u hj
    have hjl : j < l.length := by have h := (List.getElem?_eq_some_iff.1 hj).1; rwa [nums_length] at h
    obtain ⟨ad2, he, hc2⟩ := ReadsInt.at_ h (j : Int) (by omega) (by omega)
    cases he
    rw [Int.toNat_natCast] at hc2
    rw [hc2, ← hj]
    simp [nums, rd, hjl]
  have HN := Aside0.mk hnews
  have HNO := Aside0.mk hnone
  clear hnone
  clear hnews
  have hOE : Row (W3.alloc (.cells #[] 3)) w.heap.size 3 .i64 (.slice (some ⟨W3.heap.size, 0, none⟩) 0 0) [] := Row.empty W3 w.heap.size 3 .i64 HB3.out.size
  have HNW := Aside0.mk (HN.out _ (HR3.out.below (below_alloc (Below.refl _ _) (.cells #[] 3))))
  have hB1 : w.heap.size ≤ (W3.alloc (.cells #[] 3)).heap.size := by simp; have := HB3.out.size; omega
  have hB13 : W3.heap.size ≤ (W3.alloc (.cells #[] 3)).heap.size := by simp
  have hl1 : ([] : List Int).length + l.length ≤ maxLen := by unfold maxLen; simp; omega
  have hl2 : (([] : List Int).length + l.length) * 8 ≤ 140737488355328 := by simp; omega
  have hRA : ∀ v1 w4, App (W3.alloc (.cells #[] 3)).drew w4 w.heap.size 3 .i64 (.slice (some ⟨W3.heap.size, 0, none⟩) 0 0) v1 ([] ++ l) → w4.heap[b]? = some (.cells (nums .i64 cs).toArray 80 (0, 0)) := fun v1 w4 hap => blk_grown (w := (W3.alloc (.cells #[] 3)).drew) (show (W3.alloc (.cells #[] 3)).drew.heap[b]? = _ from blk_alloc HA3.out _) hap.grown (by have := HBL.out; simp [Value.ownBlock]; omega)
  have r1 : (W3.alloc (.cells #[] 3)).rangeAt b 0 (nums .i64 cs) := arr_range (blk_alloc HA3.out _)
  obtain ⟨x0, x1, x2, x3, x4, x5, x6, x7, x8, x9, x10, x11, x12, x13, x14, x15, hcx⟩ : ∃ x0 x1 x2 x3 x4 x5 x6 x7 x8 x9 x10 x11 x12 x13 x14 x15, cs = [x0, x1, x2, x3, x4, x5, x6, x7, x8, x9, x10, x11, x12, x13, x14, x15] := by
    match cs, HL.out with
    | [x0, x1, x2, x3, x4, x5, x6, x7, x8, x9, x10, x11, x12, x13, x14, x15], _ => exact ⟨_, _, _, _, _, _, _, _, _, _, _, _, _, _, _, _, rfl⟩
  have HCX := Aside0.mk hcx
  have r0 : W3.rangeAt b 0 [.int .i64 x0, .int .i64 x1, .int .i64 x2, .int .i64 x3, .int .i64 x4, .int .i64 x5, .int .i64 x6, .int .i64 x7, .int .i64 x8, .int .i64 x9, .int .i64 x10, .int .i64 x11, .int .i64 x12, .int .i64 x13, .int .i64 x14, .int .i64 x15] := by rw [hcx] at r0; exact r0
  have r1 : (W3.alloc (.cells #[] 3)).rangeAt b 0 [.int .i64 x0, .int .i64 x1, .int .i64 x2, .int .i64 x3, .int .i64 x4, .int .i64 x5, .int .i64 x6, .int .i64 x7, .int .i64 x8, .int .i64 x9, .int .i64 x10, .int .i64 x11, .int .i64 x12, .int .i64 x13, .int .i64 x14, .int .i64 x15] := by rw [hcx] at r1; exact r1
  have hRR : ∀ w4 : World, w4.heap[b]? = some (.cells (nums .i64 cs).toArray 80 (0, 0)) → w4.rangeAt b 0 [.int .i64 x0, .int .i64 x1, .int .i64 x2, .int .i64 x3, .int .i64 x4, .int .i64 x5, .int .i64 x6, .int .i64 x7, .int .i64 x8, .int .i64 x9, .int .i64 x10, .int .i64 x11, .int .i64 x12, .int .i64 x13, .int .i64 x14, .int .i64 x15] := fun w4 h => by
    have := arr_range h; rw [hcx] at this; exact this
  have hi : (Try.prog.info? 80).map (·.size) = some ([.int .i64 x0, .int .i64 x1, .int .i64 x2, .int .i64 x3, .int .i64 x4, .int .i64 x5, .int .i64 x6, .int .i64 x7, .int .i64 x8, .int .i64 x9, .int .i64 x10, .int .i64 x11, .int .i64 x12, .int .i64 x13, .int .i64 x14, .int .i64 x15] : List Value).length := infoArr
  clear hcx
  go_region_held3 (fun w' => w'.rangeAt b 0 [.int .i64 x0, .int .i64 x1, .int .i64 x2, .int .i64 x3, .int .i64 x4, .int .i64 x5, .int .i64 x6, .int .i64 x7, .int .i64 x8, .int .i64 x9, .int .i64 x10, .int .i64 x11, .int .i64 x12, .int .i64 x13, .int .i64 x14, .int .i64 x15]) (first | exact r0 | exact r1 | exact hra | exact World.rangeAt_alloc hra _) ((refine app_stepR w.heap.size rfl _ _ 29 3 .i64 8 rfl Try.underlying29 infoI649 (.slice (some ⟨W3.heap.size, 0, none⟩) 0 0) [] l rfl A l.length c rfl rfl HNO.out HNW.out hOE.drew hB1 hl1 hl2 ?_; intro v1 w4 hap; obtain ⟨A5, n5, m5, hv5, hn5⟩ := hap.row.shape; subst hv5; have hra : w4.rangeAt b 0 [.int .i64 x0, .int .i64 x1, .int .i64 x2, .int .i64 x3, .int .i64 x4, .int .i64 x5, .int .i64 x6, .int .i64 x7, .int .i64 x8, .int .i64 x9, .int .i64 x10, .int .i64 x11, .int .i64 x12, .int .i64 x13, .int .i64 x14, .int .i64 x15] := hRR w4 (hRA _ w4 hap)))
  have HB34 : Below W3.heap.size W3 w4 := (((Below.refl W3.heap.size W3).alloc (Nat.le_refl _) (.cells #[] 3)).drew).grown hap.grown (show W3.heap.size ≤ (W3.alloc (.cells #[] 3)).drew.heap.size from hB13) (fun g hg => by simp [Value.ownBlock] at hg; omega)
  have hrl : Row w4 w.heap.size 3 .i64 (.slice A5 n5 m5) l := hap.row
  obtain ⟨tb, htb⟩ : ∃ tb, tb = w4.heap.size := ⟨_, rfl⟩
  have HT5 := heap_alloc_new w4 (.cells #[.slice A5 n5 m5, .slice Av nv mv, .int .i64 x0, .int .i64 x1, .int .i64 x2, .int .i64 x3, .int .i64 x4, .int .i64 x5, .int .i64 x6, .int .i64 x7, .int .i64 x8, .int .i64 x9, .int .i64 x10, .int .i64 x11, .int .i64 x12, .int .i64 x13, .int .i64 x14, .int .i64 x15, .slice none 0 0, .int .i64 0] 85)
  have H5 : Aside0 (_ ∧ _ ∧ _ ∧ _) := ⟨HT5, hrl.alloc (.cells #[.slice A5 n5 m5, .slice Av nv mv, .int .i64 x0, .int .i64 x1, .int .i64 x2, .int .i64 x3, .int .i64 x4, .int .i64 x5, .int .i64 x6, .int .i64 x7, .int .i64 x8, .int .i64 x9, .int .i64 x10, .int .i64 x11, .int .i64 x12, .int .i64 x13, .int .i64 x14, .int .i64 x15, .slice none 0 0, .int .i64 0] 85), (HC3.out.below HB34).alloc (.cells #[.slice A5 n5 m5, .slice Av nv mv, .int .i64 x0, .int .i64 x1, .int .i64 x2, .int .i64 x3, .int .i64 x4, .int .i64 x5, .int .i64 x6, .int .i64 x7, .int .i64 x8, .int .i64 x9, .int .i64 x10, .int .i64 x11, .int .i64 x12, .int .i64 x13, .int .i64 x14, .int .i64 x15, .slice none 0 0, .int .i64 0] 85), below_alloc (HB3.out.trans (HB34.mono HB3.out.size)) (.cells #[.slice A5 n5 m5, .slice Av nv mv, .int .i64 x0, .int .i64 x1, .int .i64 x2, .int .i64 x3, .int .i64 x4, .int .i64 x5, .int .i64 x6, .int .i64 x7, .int .i64 x8, .int .i64 x9, .int .i64 x10, .int .i64 x11, .int .i64 x12, .int .i64 x13, .int .i64 x14, .int .i64 x15, .slice none 0 0, .int .i64 0] 85)⟩
  have HTB : Aside0 (w.heap.size ≤ tb) := ⟨by rw [htb]; exact Nat.le_trans HB3.out.size HB34.size⟩
  rw [← htb] at H5 ⊢
  clear hap hra r0 r1 hRR hRA HNW hOE HN HT5 HB34 hrl hi hB1 hl1 hl2 htb
  generalize w4.alloc _ = W5 at H5 ⊢
  go_wp2_with fail
  have HLT := Aside0.mk (blk_lt H5.out.1)
  clear hi r0 r1 hB13 HA3 HC3 HBL HR3
  go_loopw [9] (fun v9 wr => ∃ (n : Nat) (vs : Value), v9 = .int .i64 n ∧ 1 ≤ n ∧ n ≤ 16 ∧ Aside0 (wr.heap[tb]? = some (.cells #[.slice A5 n5 m5, .slice Av nv mv, .int .i64 x0, .int .i64 x1, .int .i64 x2, .int .i64 x3, .int .i64 x4, .int .i64 x5, .int .i64 x6, .int .i64 x7, .int .i64 x8, .int .i64 x9, .int .i64 x10, .int .i64 x11, .int .i64 x12, .int .i64 x13, .int .i64 x14, .int .i64 x15, vs, .int .i64 (lgA l n)] 85 (0, 0)) ∧ Row wr W5.heap.size 3 .i64 vs (symA l n) ∧ Fr W5 wr (· = tb))) (fun v9 _ => 16 - (intOf v9).toNat)
  case atStart => exact ⟨1, .slice none 0 0, rfl, by omega, by omega, H5.out.1, Row.nil _ _ _ _, Fr.refl _ _⟩
  case round =>
    obtain ⟨n, vs, rfl, hn1, hn2, HS⟩ := hrel
    by_cases hlt : n ≤ 15
    · have q1 : decide ((n : Int) ≤ 15) = true := decide_eq_true (by omega)
      have q1n : decide (n ≤ 15) = true := decide_eq_true hlt
      go_wp2_with fail
      go_loopw [38] (fun v38 wr => ∃ (i : Nat) (vs : Value), v38 = .int .i64 i ∧ i ≤ l.length ∧ Aside0 (wr.heap[tb]? = some (.cells #[.slice A5 n5 m5, .slice Av nv mv, .int .i64 x0, .int .i64 x1, .int .i64 x2, .int .i64 x3, .int .i64 x4, .int .i64 x5, .int .i64 x6, .int .i64 x7, .int .i64 x8, .int .i64 x9, .int .i64 x10, .int .i64 x11, .int .i64 x12, .int .i64 x13, .int .i64 x14, .int .i64 x15, vs, .int .i64 (lgP (lgA l n) l n i)] 85 (0, 0)) ∧ Row wr W5.heap.size 3 .i64 vs (symA l n ++ symP l n i) ∧ Fr W5 wr (· = tb))) (fun v38 _ => l.length - (intOf v38).toNat)
      case atStart => exact ⟨0, vs, rfl, by omega, ⟨by simpa [symP, lgP] using HS.out⟩⟩
      case round =>
        clear HS vs
        obtain ⟨i, vs, rfl, hi, HS⟩ := hrel
        by_cases hil : i < l.length
        · have q3 : decide ((i : Int) < (l.length : Int)) = true := decide_eq_true (by omega)
          have q3n : decide (i < l.length) = true := decide_eq_true hil
          obtain ⟨A1, n1, k1c, hv, hn1'⟩ := HS.out.2.1.shape
          subst hv
          obtain ⟨ad2, he, hcell⟩ := ReadsInt.at_ HR.out (i : Int) (by omega) (by omega)
          subst he
          rw [Int.toNat_natCast, rd, Int.toNat_natCast] at hcell
          have HBw : Below w.heap.size w wr := H5.out.2.2.2.trans (HS.out.2.2.below (by rintro k rfl; exact HTB.out) H5.out.2.2.2.size)
          have d0 := (HBw.cell (World.block_lt_of_cell? w _ hcell)).trans hcell
          obtain ⟨x, hx⟩ : ∃ x, x = l.getD i 0 := ⟨_, rfl⟩
          rw [← hx] at d0
          have HSUC := Aside0.mk (symP_succ l n i)
          rw [← hx] at HSUC
          have hsl := symP_length l n i
          clear hx hcell HBw
          by_cases hxn : x = (n : Int)
          · have q4 : (x == (n : Int)) = true := beq_iff_eq.2 hxn
            rw [if_pos hxn] at HSUC
            clear hxn
            have d18 : wr.cell? ⟨tb, 18, none⟩ = some (.slice A1 n1 k1c) := (blk_cell HS.out.1 18).trans (by simp)
            have f18 := blk_frozen HS.out.1 18
            have HRW := Aside0.mk HS.out.2.1
            have hsz : W5.heap.size ≤ wr.heap.size := HS.out.2.2.size
            have HSYL : Aside0 ((symA l n ++ symP l n i).length ≤ 100000000) := ⟨by have h1 := symA_length l n; rw [List.length_append]; have h2 : n * l.length ≤ 16 * 320 := Nat.mul_le_mul hn2 hl; omega⟩
            obtain ⟨sy, hsy⟩ : ∃ sy, sy = symA l n ++ symP l n i := ⟨_, rfl⟩
            rw [← hsy] at HRW HSYL
            have hl1 : sy.length + 1 ≤ maxLen := by have := HSYL.out; unfold maxLen; omega
            have hl2 : (sy.length + 1) * 8 ≤ 140737488355328 := by have := HSYL.out; omega
            have hBx : W5.heap.size ≤ (wr.alloc (.cells #[.int .i64 (i : Int)] 3)).heap.size := by simp; omega
            have HSY := Aside0.mk hsy
            clear hsy
            go_wp2_with (at_builtin; refine app_wp W5.heap.size rfl _ _ 29 3 .i64 8 rfl Try.underlying29 infoI649 (.slice A1 n1 k1c) sy [(i : Int)] rfl ⟨wr.heap.size, 0, none⟩ 1 1 rfl rfl (news_lit wr .i64 [(i : Int)] _ _ (by rfl)) (HRW.out.alloc _) hBx hl1 hl2 ?_; intro v3 w3 hap; obtain ⟨A3, n3, m3, hv3, hn3⟩ := hap.row.shape; subst hv3; have hb3 := hap.blk1 HRW.out HS.out.1 (by decide); have d3 := blk_frozen hb3 18; have d4 : w3.cell? ⟨tb, 18, none⟩ = some (.slice A1 n1 k1c) := (blk_cell hb3 18).trans (by simp); have hb4 := blk_set hb3 18 (.slice A3 n3 m3); have d5 := blk_frozen hb4 19; have d6 : (w3.setCell ⟨tb, 18, none⟩ (.slice A3 n3 m3)).cell? ⟨tb, 19, none⟩ = some (.int .i64 (lgP (lgA l n) l n i)) := (blk_cell hb4 19).trans (by simp))
            go_roundw
            case rel =>
              refine ⟨i + 1, .slice A3 n3 m3, by go_num, by omega, ⟨?_, ?_, ?_⟩⟩
              · refine (blk_set hb4 19 _).trans ?_
                have e : lgP (lgA l n) l n (i + 1) = (n : Int) := by unfold lgP; rw [HSUC.out, if_neg (by simp)]
                rw [e]
                simp
              · have h1 := hap.row
                rw [HSY.out, List.append_assoc, ← HSUC.out] at h1
                exact (h1.fr (S := (· = tb)) (((Fr.refl _ _).set1 18 _).set1 19 _) (fun g hg => by have := (h1.lt g hg).1; have := HLT.out; omega))
              · have hbel := hap.below1 HRW.out hsz
                have hfr : Fr wr w3 (fun k => W5.heap.size ≤ k) := ⟨hbel.os, hbel.tape, hbel.output, hbel.size, fun k hk hn => hbel.block k (by omega)⟩
                have hall : Fr W5 w3 (· = tb) := HS.out.2.2.trans hfr (fun k hk h => absurd hk (by omega))
                exact (hall.set1 18 _).set1 19 _
            case measure => simp [intOf]; omega
          · have q4 : (x == (n : Int)) = false := beq_eq_false_iff_ne.2 hxn
            rw [if_neg hxn] at HSUC
            clear hxn
            go_wp2_with fail
            go_roundw
            case rel => exact ⟨i + 1, _, by go_num, by omega, ⟨by unfold lgP at *; rw [HSUC.out]; exact HS.out⟩⟩
            case measure => simp [intOf]; omega
        · have q3 : decide ((i : Int) < (l.length : Int)) = false := decide_eq_false (by omega)
          have q3n : decide (i < l.length) = false := decide_eq_false hil
          obtain rfl : i = l.length := by omega
          go_wp2_with fail
          go_roundw
          case rel =>
            refine ⟨n + 1, vs, by go_num, by omega, by omega, ?_⟩
            obtain ⟨m, rfl⟩ : ∃ m, n = m + 1 := ⟨n - 1, by omega⟩
            exact HS
          case measure => simp [intOf]; omega
    · have q1 : decide ((n : Int) ≤ 15) = false := decide_eq_false (by omega)
      have q1n : decide (n ≤ 15) = false := decide_eq_false hlt
      go_wp2_with fail
      go_returns
      obtain rfl : n = 16 := by omega
      have hne : ∀ {u : Value} {zs : List Int}, Row W5 w.heap.size 3 .i64 u zs → ∀ g, u.ownBlock = some g → ¬ g = tb := fun h => h.ne_blk H5.out.1 (by decide)
      have hfin := HS.out.1
      refine ⟨tb, rfl, ⟨⟨.slice A5 n5 m5, .slice Av nv mv, vs, ?_, H5.out.2.1.fr HS.out.2.2 (hne H5.out.2.1), H5.out.2.2.1.fr HS.out.2.2 (hne H5.out.2.2.1), HS.out.2.1.lower H5.out.2.2.2.size⟩, cntL_length l⟩, HTB.out, ?_⟩
      · rw [← HCS.out, HCX.out]; exact hfin
      exact H5.out.2.2.2.trans (HS.out.2.2.below (by rintro k rfl; exact HTB.out) H5.out.2.2.2.size)
end Go.Proofs.Ytcphjcggnblnkaa.Hand
