/- Squeeze: the finder in memory, the places that it notes; walked by hand. Squeeze: the longest piece that stood ahead; walked by hand. -/
import Derived.Test.YtfoicjlkbkjfjaaHand11
import Derived.WalkMore
namespace Go.Proofs.Ytfoicjlkbkjfjaa.Hand
open Go.RowKit Go.Proofs.YtfoicjlkbkjfjaaW.PrintWords Go.Proofs.YtfoicjlkbkjfjaaW.PrintLast Go.Proofs.YtfoicjlkbkjfjaaW.PrintMore Go.Proofs.Ytfoicjlkbkjfjaa.Num Go.Proofs.Ytfoicjlkbkjfjaa.Bits
set_option linter.unusedVariables false
set_option linter.unusedSimpArgs false
/-- A finder that noted the places ahead of d. -/
structure FindAt (w : World) (B x : Nat) (s : ByteArray) (d : Nat) : Prop where
  open_ : ∃ (mb : Nat) (v : Value) (l : List Int), w.heap[x]? = some (.cells #[.string s, .map (some mb), v, .int .i64 (d : Int)] 51 (0, 0)) ∧ Row w B 3 .i64 v l ∧ l.length = d ∧ (∀ i, i < d → l.getD i 0 = nxt s i) ∧ MapAt w B mb d (lastP s d)
def IBm (w : World) (k : Nat) : Prop := (∃ cs fr, w.heap[k]? = some (.cells cs 3 fr)) ∨ (∃ es c, w.heap[k]? = some (.map es c))
/-- What a finder's doings may write. -/
def SF (B x : Nat) (w : World) (k : Nat) : Prop := k = x ∨ (B ≤ k ∧ IBm w k)
theorem IBm.old {w w1 : World} {S : Nat → Prop} (h : Fr w w1 S) {k : Nat} (hk : k < w.heap.size) (hu : IBm w1 k) (hn : ¬ S k) : IBm w k := by
  unfold IBm at hu ⊢
  rwa [h.block k hk hn] at hu
theorem Fr.sf {w w1 w2 : World} {B x : Nat} (h : Fr w w1 (SF B x w)) (k : Fr w1 w2 (SF B x w1)) : Fr w w2 (SF B x w) :=
  h.trans k (fun j hj hs => by
    by_cases hn : SF B x w j
    · exact hn
    · rcases hs with h1 | ⟨h1, h2⟩
      · exact .inl h1
      · exact .inr ⟨h1, IBm.old h hj h2 hn⟩)
theorem Fr.sfX {w w1 : World} {B x : Nat} (h : Fr w w1 (· = x)) : Fr w w1 (SF B x w) := h.mono (fun _ _ h => .inl h)
theorem Fr.sfRow {w w1 : World} {B x : Nat} {v : Value} {l : List Int} (h : Row w B 3 .i64 v l) (hg : w.grownBy w1 v.ownBlock) : Fr w w1 (SF B x w) :=
  (Fr.of_grown hg).mono (fun k _ hk => .inr ⟨(h.lt k hk).1, by obtain ⟨cs, hc⟩ := h.blk k hk; exact .inl ⟨cs, (0, 0), hc⟩⟩)
theorem Fr.sfMap {w w1 : World} {B x mb n : Nat} {F : Int → Int} (h : MapAt w B mb n F) (hg : w.grownBy w1 (some mb)) : Fr w w1 (SF B x w) :=
  (Fr.of_grown hg).mono (fun k _ hk => .inr ⟨by injection hk with hk; rw [← hk]; exact h.low, by injection hk with hk; rw [← hk]; exact .inr h.blk⟩)
theorem FindAt.drawn {w w1 : World} {B x : Nat} {s : ByteArray} {d : Nat} (h : FindAt w B x s d) (hd : Drawn0 w w1) : FindAt w1 B x s d := by
  obtain ⟨⟨n, rfl⟩⟩ := hd
  obtain ⟨mb, v, l, h1, h2, h3, h4, h5⟩ := h.open_
  exact ⟨mb, v, l, h1, h2, h3, h4, ⟨h5.low, h5.open_⟩⟩
theorem key3_range (s : ByteArray) (i : Nat) : 0 ≤ key3 s i ∧ key3 s i < 16777216 := by
  have h0 := bt_byte s i
  have h1 := bt_byte s ((i + 1 : Nat) : Int)
  have h2 := bt_byte s ((i + 2 : Nat) : Int)
  unfold key3; omega
theorem i64_wf (k : Int) (h : -9223372036854775808 ≤ k ∧ k ≤ 9223372036854775807) : (Lit.int .i64 k).wf = true := by
  simpa [Lit.wf, IntKind.min, IntKind.max, IntKind.bits, IntKind.signed] using h
theorem lastP_lt (s : ByteArray) : ∀ d k, lastP s d k < d ∧ -1 ≤ lastP s d k
  | 0, k => by rw [lastP]; omega
  | d + 1, k => by
    rw [lastP]
    have := lastP_lt s d k
    split <;> omega
theorem Row.own {W : World} {B : Nat} {e : TypeId} {k : IntKind} {v : Value} {xs : List Int} (h : Row W B e k v xs) (hx : 0 < xs.length) : ∃ g cap, v = .slice (some ⟨g, 0, none⟩) xs.length cap := by
  obtain ⟨_, h | ⟨g, cap, cur, h1, _⟩⟩ := h
  · omega
  · exact ⟨g, cap, h1⟩
theorem FindAt.step {W : World} {B x : Nat} {s : ByteArray} {d mb : Nat} {v : Value} {l : List Int} (hb : W.heap[x]? = some (.cells #[.string s, .map (some mb), v, .int .i64 (d : Int)] 51 (0, 0))) (hr : Row W B 3 .i64 v l) (hl : l.length = d + 1)
    (hnx : ∀ i, i < d + 1 → l.getD i 0 = nxt s i) (hm : MapAt W B mb (d + 1) (lastP s (d + 1))) : FindAt (W.setCell ⟨x, 3, none⟩ (.int .i64 ((d : Int) + 1))) B x s (d + 1) := by
  refine ⟨mb, v, l, (blk_set hb 3 _).trans (by simp), hr.set hb (by decide) 3 _, hl, hnx, ?_⟩
  exact hm.fr ((Fr.refl W (· = x)).set1 3 _) (hm.ne hb)
theorem getD_snoc {l : List Int} {d : Nat} {y : Int} {f : Nat → Int} (hl : l.length = d) (h : ∀ i, i < d → l.getD i 0 = f i) (hy : y = f d) : ∀ i, i < d + 1 → (l ++ [y]).getD i 0 = f i := by
  intro i hi
  by_cases hd : i < d
  · rw [← h i hd, List.getD_eq_getElem?_getD, List.getD_eq_getElem?_getD, List.getElem?_append_left (by omega)]
  · obtain rfl : i = d := by omega
    rw [List.getD_eq_getElem?_getD, List.getElem?_append_right (by omega), hl, Nat.sub_self]
    exact hy
theorem set_snoc {l : List Int} {d : Nat} {y z : Int} (hl : l.length = d) : (l ++ [y]).set d z = l ++ [z] := by
  subst hl
  rw [List.set_append_right _ _ (Nat.le_refl _), Nat.sub_self]
  rfl
theorem lastP_skip (s : ByteArray) (d : Nat) (h : ¬ d + 3 ≤ s.size) : lastP s (d + 1) = lastP s d := by
  funext k
  rw [lastP, if_neg (fun hh => h hh.1)]
theorem lastP_put (s : ByteArray) (d : Nat) (h : d + 3 ≤ s.size) : (fun x => if x = key3 s d then (d : Int) else lastP s d x) = lastP s (d + 1) := by
  funext k
  rw [lastP]
  by_cases hk : k = key3 s d
  · rw [if_pos hk, if_pos ⟨h, hk.symm⟩]
  · rw [if_neg hk, if_neg (fun hh => hk hh.2.symm)]
set_option maxRecDepth 100000 in
set_option maxHeartbeats 4000000 in
theorem fpass_calls (w : World) (B x : Nat) (s : ByteArray) (d to_ : Nat) (h : FindAt w B x s d) (hd : d ≤ to_) (hto : to_ ≤ s.size) (hs : s.size ≤ 100000) (hB : B ≤ w.heap.size) :
    Calls Try.prog 52 #[.pointer (some ⟨x, 0, none⟩), .int .i64 (to_ : Int)] w fun e w' => e = .returned (.tuple #[]) ∧ FindAt w' B x s to_ ∧ Fr w w' (SF B x w) := by
  have HH := Aside0.mk h
  clear h
  go_enter Try.func52, Try.ntmps52
  go_wp2_with fail
  go_loopg [] (to_ + 1) (fun kq wr => ∃ d1 : Nat, d ≤ d1 ∧ d1 ≤ to_ ∧ to_ < d1 + kq ∧ Aside0 (FindAt wr B x s d1 ∧ Fr w wr (SF B x w)))
  case atStart => exact ⟨d, by omega, hd, by omega, ⟨HH.out, Fr.refl _ _⟩⟩
  case round =>
    obtain ⟨d1, hd0, hd1, hk, HW⟩ := hrel
    obtain ⟨mb, v, l, hb, hr, hl, hnx, hm⟩ := HW.out.1.open_
    obtain ⟨A1, n1, k1, rfl, hn1⟩ := hr.shape
    have c2 : wr.cell? ⟨x, 2, none⟩ = some (.slice A1 n1 k1) := (blk_cell hb 2).trans (by simp)
    have c3 : wr.cell? ⟨x, 3, none⟩ = some (.int .i64 (d1 : Int)) := (blk_cell hb 3).trans (by simp)
    have HX : Aside0 (_ ∧ _ ∧ _) := ⟨hl, hnx, hm⟩
    have HB := Aside0.mk (Nat.le_trans hB HW.out.2.size)
    by_cases hlt : d1 < to_
    · have q1 : decide ((d1 : Int) < (to_ : Int)) = true := decide_eq_true (by omega)
      have q1n : decide (d1 < to_) = true := decide_eq_true hlt
      have HN : Aside0 (_ ∧ _) := ⟨hb, hr⟩
      clear hb hr hl hnx hm hn1
      go_wp2_with (at_builtin; refine app_wp B rfl _ _ 49 3 .i64 8 rfl Try.underlying49 infoI64 (.slice A1 n1 k1) l [-1] rfl ⟨wr.heap.size, 0, none⟩ 1 1 rfl rfl (news_lit wr .i64 _ _ _ (by rfl)) (HN.out.2.alloc _) (by have := HB.out; simp; omega) (by have := HX.out.1; unfold maxLen; simp; omega) (by have := HX.out.1; simp; omega) ?_; intro v3 w3 hap; obtain ⟨A3, n3, k3, hv3, hn3⟩ := hap.row.shape; subst hv3; have hb3 := hap.blk1 HN.out.2 HN.out.1 (by decide); have f3 := blk_frozen hb3 2; have d3 : w3.cell? ⟨x, 2, none⟩ = some (.slice A1 n1 k1) := (blk_cell hb3 2).trans (by simp))
      have hb4 : (w3.setCell ⟨x, 2, none⟩ (.slice A3 n3 k3)).heap[x]? = some (.cells #[.string s, .map (some mb), .slice A3 n3 k3, .int .i64 (d1 : Int)] 51 (0, 0)) := (blk_set hb3 2 _).trans (by simp)
      have hr4 : Row (w3.setCell ⟨x, 2, none⟩ (.slice A3 n3 k3)) B 3 .i64 (.slice A3 n3 k3) (l ++ [-1]) := hap.row.set hb3 (by decide) 2 _
      have hf4 : Fr wr (w3.setCell ⟨x, 2, none⟩ (.slice A3 n3 k3)) (fun k => k = x ∨ (Value.slice A1 n1 k1).ownBlock = some k) :=
        (((Fr.refl wr _).alloc _).trans (Fr.of_grown hap.grown) (fun k _ hk => .inr hk)).trans ((Fr.refl w3 (· = x)).set1 2 _) (fun k _ hk => .inl hk)
      have hm4 : MapAt (w3.setCell ⟨x, 2, none⟩ (.slice A3 n3 k3)) B mb d1 (lastP s d1) := HX.out.2.2.fr hf4 (by
        rintro (h | h)
        · exact HX.out.2.2.ne HN.out.1 h
        · obtain ⟨cs, hc⟩ := HN.out.2.blk _ h
          exact HX.out.2.2.ne hc rfl)
      have hs4 : Fr wr (w3.setCell ⟨x, 2, none⟩ (.slice A3 n3 k3)) (SF B x wr) := hf4.mono (fun k _ hk => by
        rcases hk with h | h
        · exact .inl h
        · obtain ⟨cs, hc⟩ := HN.out.2.blk _ h
          exact .inr ⟨(HN.out.2.lt k h).1, .inl ⟨cs, (0, 0), hc⟩⟩)
      have hln : n3 = d1 + 1 := by have := hn3.out; rw [List.length_append, HX.out.1] at this; exact this
      generalize w3.setCell ⟨x, 2, none⟩ (.slice A3 n3 k3) = W4 at *
      have HN4 : Aside0 (_ ∧ _ ∧ _ ∧ _ ∧ _) := ⟨hb4, hr4, hm4, HW.out.2.sf hs4, (rfl : True = True)⟩
      clear c2 c3 hap hb3 f3 d3 hf4 hs4 hm4 hr4 HN hn3 w3
      have c0 : W4.cell? ⟨x, 0, none⟩ = some (.string s) := (blk_cell hb4 0).trans (by simp)
      have c1 : W4.cell? ⟨x, 1, none⟩ = some (.map (some mb)) := (blk_cell hb4 1).trans (by simp)
      have c2 : W4.cell? ⟨x, 2, none⟩ = some (.slice A3 n3 k3) := (blk_cell hb4 2).trans (by simp)
      have c3 : W4.cell? ⟨x, 3, none⟩ = some (.int .i64 (d1 : Int)) := (blk_cell hb4 3).trans (by simp)
      have f3 := blk_frozen hb4 3
      have e4 : ((d1 + 1 : Nat) : Int) = (d1 : Int) + 1 := by omega
      clear hb4
      by_cases h3 : d1 + 3 ≤ s.size
      · have q3 : decide ((s.size : Int) < (d1 : Int) + 3) = false := decide_eq_false (by omega)
        go_quiet (fail)
        go_wp2_with fail
        have HK := fkey_calls (W4.drewN nq) x s (.map (some mb)) (.slice A3 n3 k3) (.int .i64 (d1 : Int)) d1 HN4.out.1 h3 (by omega)
        refine HK.mono ?_
        rintro e w5 ⟨rfl, ⟨⟨n5, rfl⟩⟩⟩
        clear HK
        have hlk := (HN4.out.2.2.1.drawn (⟨⟨nq + n5, rfl⟩⟩ : Drawn0 W4 (W4.drewN (nq + n5)))).look (key3 s d1) (i64_wf _ (by have := key3_range s d1; omega))
        have hlr := lastP_lt s d1 (key3 s d1)
        have hput := fun (W : World) (hm : MapAt W B mb d1 (lastP s d1)) => hm.put (by unfold maxLen; omega) (key3 s d1) (d1 : Int) (i64_wf _ (by have := key3_range s d1; omega)) (i64_wf _ (by omega)) (by omega)
        rw [lastP_put s d1 h3] at hput
        rw [World.drewN_drewN]
        generalize nq + n5 = N at *
        have HJN : Aside0 (nxt s d1 = lastP s d1 (key3 s d1)) := ⟨by unfold nxt; rw [if_pos h3]⟩
        obtain ⟨ky, hky⟩ : ∃ ky, ky = key3 s d1 := ⟨_, rfl⟩
        obtain ⟨J, hJ⟩ : ∃ J, J = lastP s d1 ky := ⟨_, rfl⟩
        rw [← hky] at hlk hlr hput HJN
        rw [← hJ] at hlk hlr HJN
        rw [← hky]
        clear hky hJ
        have HP := Aside0.mk hput
        clear hput
        by_cases hj : J < 0
        · rw [if_pos hj, decide_eq_false (show ¬ 0 ≤ J by omega)] at hlk
          have HM4 : Aside0 (∀ n, ∃ w', _ ∧ _ ∧ _) := ⟨fun n => HP.out (W4.drewN n) (HN4.out.2.2.1.drawn ⟨⟨n, rfl⟩⟩)⟩
          go_wp2_with fail
          obtain ⟨W7, hup, hm7, hg7⟩ := HM4.out (N + 1)
          go_region
          have hb7 : W7.heap[x]? = some (.cells #[.string s, .map (some mb), .slice A3 n3 k3, .int .i64 (d1 : Int)] 51 (0, 0)) :=
            blk_grown (blk_drewN HN4.out.1 (N + 1)) hg7 (fun he => by injection he with he; exact HN4.out.2.2.1.ne HN4.out.1 he.symm)
          have hr7 : Row W7 B 3 .i64 (.slice A3 n3 k3) (l ++ [-1]) := HN4.out.2.1.fr (Fr.of_drewN (Fr.of_grown hg7)) (fun k hk he => by
            injection he with he
            obtain ⟨cs, hc⟩ := HN4.out.2.1.blk k hk
            exact HN4.out.2.2.1.ne hc he)
          have c7 : W7.cell? ⟨x, 3, none⟩ = some (.int .i64 (d1 : Int)) := (blk_cell hb7 3).trans (by simp)
          have f7 := blk_frozen hb7 3
          have HF7 : Aside0 (_ ∧ _) := ⟨FindAt.step hb7 hr7 (by rw [List.length_append, HX.out.1]; rfl) (getD_snoc HX.out.1 HX.out.2.1 (by rw [HJN.out]; omega)) hm7,
            (HN4.out.2.2.2.1.sf ((Fr.refl W4 _).drewN (N + 1))).sf ((Fr.sfMap (HN4.out.2.2.1.drawn (⟨⟨_, rfl⟩⟩ : Drawn0 W4 (W4.drewN (N + 1)))) hg7).sf (((Fr.refl W7 (· = x)).set1 3 (.int .i64 ((d1 : Int) + 1))).sfX))⟩
          clear c0 c1 c2 c3 f3 HN4 HP HM4 hup hm7 hg7 hb7 hr7 hlk
          go_wp2_with fail
          go_roundg (gk - 1)
          case measure => omega
          case rel => exact ⟨d1 + 1, by omega, by omega, by omega, ⟨HF7.out⟩⟩
        · rw [if_neg hj, decide_eq_true (show 0 ≤ J by omega)] at hlk
          obtain ⟨g, k3', hsl⟩ := HN4.out.2.1.own (by simp)
          rw [List.length_append, HX.out.1] at hsl
          injection hsl with hA hn hk3
          subst hA hk3
          have hat := HN4.out.2.1.at_ d1 (by rw [List.length_append, HX.out.1]; simp)
          have hgx : g ≠ x := HN4.out.2.1.ne_blk HN4.out.1 (by decide) g rfl
          have cg : ∃ v, W4.cell? ⟨g, d1, none⟩ = some v := ⟨_, hat.1⟩
          obtain ⟨vg, cg⟩ := cg
          have fg := hat.2
          clear hat
          go_wp2_with fail
          go_region
          have hF5 : Fr W4 ((W4.drewN (N + 1)).setCell ⟨g, d1, none⟩ (.int .i64 J)) (· = g) := ((Fr.refl W4 _).drewN (N + 1)).set1 d1 (.int .i64 J)
          have hb5 := hF5.blk HN4.out.1 (fun h => hgx h.symm)
          have hr5 : Row ((W4.drewN (N + 1)).setCell ⟨g, d1, none⟩ (.int .i64 J)) B 3 .i64 (.slice (some ⟨g, 0, none⟩) n3 k3) (l ++ [J]) := by
            rw [← set_snoc (y := -1) HX.out.1]
            exact Row.store (show Row (W4.drewN (N + 1)) B 3 .i64 (.slice (some ⟨g, 0, none⟩) n3 k3) (l ++ [-1]) from HN4.out.2.1) d1 J
          have hm5 := HN4.out.2.2.1.fr hF5 (fun h => by
            obtain ⟨cs, hc⟩ := HN4.out.2.1.blk g rfl
            exact HN4.out.2.2.1.ne hc h)
          have hs5 : Fr W4 ((W4.drewN (N + 1)).setCell ⟨g, d1, none⟩ (.int .i64 J)) (SF B x W4) := hF5.mono (fun k _ hk => by
            subst hk
            obtain ⟨cs, hc⟩ := HN4.out.2.1.blk k rfl
            exact .inr ⟨(HN4.out.2.1.lt k rfl).1, .inl ⟨cs, (0, 0), hc⟩⟩)
          have hs6 := HN4.out.2.2.2.1.sf hs5
          generalize (W4.drewN (N + 1)).setCell ⟨g, d1, none⟩ (.int .i64 J) = W5 at *
          have HN5 : Aside0 (_ ∧ _ ∧ _ ∧ _) := ⟨hb5, hr5, hm5, hs6⟩
          clear c0 c1 c2 c3 f3 HN4 hlk hF5 hr5 hm5 hs5 hs6 cg fg
          have c1 : W5.cell? ⟨x, 1, none⟩ = some (.map (some mb)) := (blk_cell hb5 1).trans (by simp)
          have c3 : W5.cell? ⟨x, 3, none⟩ = some (.int .i64 (d1 : Int)) := (blk_cell hb5 3).trans (by simp)
          obtain ⟨W7, hup, hm7, hg7⟩ := HP.out W5.drew (HN5.out.2.2.1.drawn ⟨⟨1, rfl⟩⟩)
          clear hb5 HP
          go_wp2_with fail
          go_region
          have hb7 : W7.heap[x]? = some (.cells #[.string s, .map (some mb), .slice (some ⟨g, 0, none⟩) n3 k3, .int .i64 (d1 : Int)] 51 (0, 0)) :=
            blk_grown (blk_drew HN5.out.1) hg7 (fun he => by injection he with he; exact HN5.out.2.2.1.ne HN5.out.1 he.symm)
          have hr7 : Row W7 B 3 .i64 (.slice (some ⟨g, 0, none⟩) n3 k3) (l ++ [J]) := HN5.out.2.1.fr (Fr.of_grown hg7).of_drew (fun k hk he => by
            injection he with he
            obtain ⟨cs, hc⟩ := HN5.out.2.1.blk k hk
            exact HN5.out.2.2.1.ne hc he)
          have c7 : W7.cell? ⟨x, 3, none⟩ = some (.int .i64 (d1 : Int)) := (blk_cell hb7 3).trans (by simp)
          have f7 := blk_frozen hb7 3
          have HF7 : Aside0 (_ ∧ _) := ⟨FindAt.step hb7 hr7 (by rw [List.length_append, HX.out.1]; rfl) (getD_snoc HX.out.1 HX.out.2.1 HJN.out.symm) hm7,
            (HN5.out.2.2.2.sf ((Fr.refl W5 _).drewN 1)).sf ((Fr.sfMap (HN5.out.2.2.1.drawn (⟨⟨1, rfl⟩⟩ : Drawn0 W5 W5.drew)) hg7).sf (((Fr.refl W7 (· = x)).set1 3 (.int .i64 ((d1 : Int) + 1))).sfX))⟩
          clear c1 c3 HN5 hup hm7 hg7 hb7 hr7
          go_wp2_with fail
          go_roundg (gk - 1)
          case measure => omega
          case rel => exact ⟨d1 + 1, by omega, by omega, by omega, ⟨HF7.out⟩⟩
      · have q3 : decide ((s.size : Int) < (d1 : Int) + 3) = true := decide_eq_true (by omega)
        have HF5 : Aside0 (_ ∧ _) := ⟨FindAt.step HN4.out.1 HN4.out.2.1 (by rw [List.length_append, HX.out.1]; rfl) (getD_snoc HX.out.1 HX.out.2.1 (by unfold nxt; rw [if_neg h3])) (by rw [lastP_skip s d1 h3]; exact HN4.out.2.2.1.mono (Nat.le_succ _)),
          HN4.out.2.2.2.1.sf (((Fr.refl W4 (· = x)).set1 3 (.int .i64 ((d1 : Int) + 1))).sfX)⟩
        clear HN4
        go_quiet (fail)
        go_wp2_with fail
        go_roundg (gk - 1)
        case measure => omega
        case rel => exact ⟨d1 + 1, by omega, by omega, by omega, ⟨HF5.out.1.drawn ⟨⟨nq, rfl⟩⟩, HF5.out.2.drewN nq⟩⟩
    · have q1 : decide ((d1 : Int) < (to_ : Int)) = false := decide_eq_false (by omega)
      have q1n : decide (d1 < to_) = false := decide_eq_false hlt
      obtain rfl : d1 = to_ := by omega
      go_wp2_with fail
      go_returns
      exact ⟨rfl, HW.out⟩
end Go.Proofs.Ytfoicjlkbkjfjaa.Hand
namespace Go.Proofs.Ytfoicjlkbkjfjaa.Hand
open Go.RowKit Go.Proofs.YtfoicjlkbkjfjaaW.PrintWords Go.Proofs.YtfoicjlkbkjfjaaW.PrintLast Go.Proofs.YtfoicjlkbkjfjaaW.PrintMore Go.Proofs.Ytfoicjlkbkjfjaa.Num Go.Proofs.Ytfoicjlkbkjfjaa.Bits
set_option linter.unusedVariables false
set_option linter.unusedSimpArgs false
theorem goL_skip (s : ByteArray) (at_ : Nat) (l b : Nat) : ∀ jj, jj ≤ at_ → at_ + 3 ≤ s.size → goL s at_ jj l b = goL s at_ (lastP s jj (key3 s at_) + 1).toNat l b
  | 0, _, _ => rfl
  | d + 1, h1, h2 => by
    rw [lastP]
    by_cases hk : key3 s d = key3 s at_
    · rw [if_pos ⟨by omega, hk⟩, show ((d : Int) + 1).toNat = d + 1 by omega]
    · rw [if_neg (fun h => hk h.2), ← goL_skip s at_ l b d (by omega) h2, goL, if_neg hk]
theorem goL_hit (s : ByteArray) (at_ : Nat) (l b j : Nat) (hk : key3 s j = key3 s at_) : goL s at_ (j + 1) l b = if 32768 < at_ - j then (l, b) else if alk s 258 j at_ ≤ l then goL s at_ j l b else if alk s 258 j at_ = 258 then (alk s 258 j at_, at_ - j) else goL s at_ j (alk s 258 j at_) (at_ - j) := by
  rw [goL, if_pos hk]
theorem lastP_hit (s : ByteArray) (k : Int) : ∀ d, 0 ≤ lastP s d k → (lastP s d k).toNat < d ∧ (lastP s d k).toNat + 3 ≤ s.size ∧ key3 s (lastP s d k).toNat = k
  | 0, h => by rw [lastP] at h; omega
  | d + 1, h => by
    rw [lastP] at h ⊢
    split
    · rename_i hc
      rw [Int.toNat_natCast]
      exact ⟨by omega, hc.1, hc.2⟩
    · rename_i hc
      rw [if_neg hc] at h
      have := lastP_hit s k d h
      exact ⟨by omega, this.2⟩
set_option maxRecDepth 100000 in
set_option maxHeartbeats 4000000 in
theorem ffind_calls (w : World) (B x : Nat) (s : ByteArray) (d at_ : Nat) (h : FindAt w B x s d) (hd : d ≤ at_) (hat : at_ ≤ s.size) (hs : s.size ≤ 100000) (hB : B ≤ w.heap.size) :
    Calls Try.prog 24 #[.pointer (some ⟨x, 0, none⟩), .int .i64 (at_ : Int)] w fun e w' => e = .returned (.tuple #[.int .i64 ((findF s at_).1 : Int), .int .i64 ((findF s at_).2 : Int)]) ∧ FindAt w' B x s at_ ∧ Fr w w' (SF B x w) := by
  have HP := Aside0.mk (fpass_calls w B x s d at_ h hd hat hs hB)
  clear h
  go_enter Try.func24, Try.ntmps24
  go_wp2_with fail
  refine wp_scope_straight ?_
  go_wp2_with fail
  refine HP.out.mono ?_
  rintro e w1 ⟨rfl, h1, hf1⟩
  have HF : Aside0 (_ ∧ _) := ⟨h1, hf1⟩
  clear HP
  obtain ⟨mb, v, l, hb, hr, hl, hnx, hm⟩ := h1.open_
  clear h1 hf1
  obtain ⟨A1, k1, rfl, hrd⟩ := hr.reads
  have c0 : w1.cell? ⟨x, 0, none⟩ = some (.string s) := (blk_cell hb 0).trans (by simp)
  have c1 : w1.cell? ⟨x, 1, none⟩ = some (.map (some mb)) := (blk_cell hb 1).trans (by simp)
  have c2 : w1.cell? ⟨x, 2, none⟩ = some (.slice A1 l.length k1) := (blk_cell hb 2).trans (by simp)
  have HX : Aside0 (_ ∧ _ ∧ _ ∧ _ ∧ _) := ⟨hb, hl, hnx, hm, hrd⟩
  clear hb hr hnx hm hrd
  by_cases h3 : s.size < at_ + 3
  · have q3 : decide ((s.size : Int) < (at_ : Int) + 3) = true := decide_eq_true (by omega)
    have q3n : decide (s.size < at_ + 3) = true := decide_eq_true h3
    go_wp2_with fail
    repeat (rw [Exit.noGoto_ret])
    go_returns
    have e : findF s at_ = (0, 0) := by unfold findF; rw [if_pos h3]
    rw [e]
    exact ⟨rfl, HF.out⟩
  · have q3 : decide ((s.size : Int) < (at_ : Int) + 3) = false := decide_eq_false (by omega)
    have q3n : decide (s.size < at_ + 3) = false := decide_eq_false h3
    have hlr := lastP_lt s at_ (key3 s at_)
    have hlh := lastP_hit s (key3 s at_) at_
    have HS0 := Aside0.mk (goL_skip s at_ 0 0 at_ (Nat.le_refl _) (by omega))
    have HE : Aside0 (findF s at_ = goL s at_ at_ 0 0) := ⟨by unfold findF; rw [if_neg h3]⟩
    have hlk : ∀ n, (Instr.lookup 48 (.map (some mb)) (.int .i64 (key3 s at_)) true).run Try.prog (w1.drewN n) = .ok (.tuple #[.int .i64 (if lastP s at_ (key3 s at_) < 0 then 0 else lastP s at_ (key3 s at_)), .bool (decide (0 ≤ lastP s at_ (key3 s at_)))]) (w1.drewN n) :=
      fun n => (HX.out.2.2.2.1.drawn ⟨⟨n, rfl⟩⟩).look _ (i64_wf _ (by have := key3_range s at_; omega))
    have HK : Aside0 (∀ n, Calls Try.prog 53 #[.pointer (some ⟨x, 0, none⟩), .int .i64 (at_ : Int)] (w1.drewN n) fun e w' => e = .returned (.int .i64 (key3 s at_)) ∧ ∃ m, w' = w1.drewN m) :=
      ⟨fun n => (fkey_calls (w1.drewN n) x s _ _ _ at_ HX.out.1 (by omega) (by omega)).mono (by rintro e w2 ⟨rfl, ⟨⟨m, rfl⟩⟩⟩; exact ⟨rfl, n + m, World.drewN_drewN _ _ _⟩)⟩
    obtain ⟨ky, hky⟩ : ∃ ky, ky = key3 s at_ := ⟨_, rfl⟩
    obtain ⟨J, hJ⟩ : ∃ J, J = lastP s at_ ky := ⟨_, rfl⟩
    rw [← hky] at hlk hlr HK hlh HS0
    rw [← hJ] at hlk hlr hlh HS0
    have HKY : Aside0 (_ ∧ _ ∧ _) := ⟨hky, hJ, hlh⟩
    clear hky hJ hlh
    by_cases hj : J < 0
    · simp only [if_pos hj, decide_eq_false (show ¬ 0 ≤ J by omega)] at hlk
      go_wp2_with fail
      go_quiet (refine HK.out _)
      go_wp2_with fail
      repeat (rw [Exit.noGoto_ret])
      go_returns
      have e : findF s at_ = (0, 0) := by rw [HE.out, HS0.out, show (J + 1).toNat = 0 by omega, goL]
      rw [e]
      exact ⟨rfl, HF.out.1.drawn ⟨⟨nq, rfl⟩⟩, HF.out.2.drewN nq⟩
    · simp only [if_neg hj, decide_eq_true (show 0 ≤ J by omega)] at hlk
      go_wp2_with fail
      go_quiet (refine HK.out _)
      clear hlk HK c1
      have HKK : Aside0 (0 ≤ J → J.toNat + 3 ≤ s.size ∧ key3 s J.toNat = key3 s at_) := ⟨fun h => by
        have := HKY.out.2.2 h
        exact ⟨this.2.1, this.2.2.trans HKY.out.1⟩⟩
      clear HKY
      go_wp2_with fail
      refine wp_label ?_
      go_wp2_with fail
      go_loopw [6, 8, 9] (fun v6 v8 v9 wr => ∃ (J2 : Int) (ln bk : Nat), v6 = .int .i64 J2 ∧ v8 = .int .i64 (ln : Int) ∧ v9 = .int .i64 (bk : Int) ∧ -1 ≤ J2 ∧ J2 < at_ ∧ ln ≤ 258 ∧ Aside0 (goL s at_ at_ 0 0 = goL s at_ (J2 + 1).toNat ln bk ∧ (0 ≤ J2 → J2.toNat + 3 ≤ s.size ∧ key3 s J2.toNat = key3 s at_) ∧ Drawn0 w1 wr)) (fun v6 _ _ _ => (intOf v6 + 1).toNat)
      case atStart => exact ⟨J, 0, 0, rfl, rfl, rfl, hlr.2, hlr.1, by omega, ⟨HS0.out, HKK.out, ⟨⟨nq, rfl⟩⟩⟩⟩
      case round =>
        clear HKK HS0 hlr hj
        obtain ⟨J2, ln, bk, rfl, rfl, rfl, hj1, hj2, hln, HR⟩ := hrel
        obtain ⟨⟨nd, rfl⟩⟩ := HR.out.2.2
        by_cases hjn : 0 ≤ J2
        · obtain ⟨j, rfl⟩ : ∃ j : Nat, J2 = (j : Int) := ⟨J2.toNat, by omega⟩
          have qg : decide (0 ≤ (j : Int)) = true := decide_eq_true hjn
          have hkj := HR.out.2.1 hjn
          rw [Int.toNat_natCast] at hkj
          have hgo := HR.out.1
          rw [show ((j : Int) + 1).toNat = j + 1 by omega, goL_hit s at_ ln bk j hkj.2] at hgo
          by_cases hfar : 32768 < at_ - j
          · have qf : decide ((at_ : Int) - (j : Int) ≤ 32768) = false := decide_eq_false (by omega)
            rw [if_pos hfar] at hgo
            have HG := Aside0.mk hgo
            clear hgo hkj HR
            go_wp2_with fail
            repeat (rw [Exit.noGoto_ret])
            go_returns
            rw [HE.out, HG.out]
            exact ⟨rfl, HF.out.1.drawn ⟨⟨_, rfl⟩⟩, HF.out.2.drewN _⟩
          · have qf : decide ((at_ : Int) - (j : Int) ≤ 32768) = true := decide_eq_true (by omega)
            rw [if_neg hfar] at hgo
            have HA := Aside0.mk (falike_calls (w1.drewN nd) x s _ _ _ j at_ HX.out.1 (by omega) hat (by omega))
            obtain ⟨n, hn⟩ : ∃ n, n = alk s 258 j at_ := ⟨_, rfl⟩
            have hn258 : n ≤ 258 := by rw [hn]; exact alk_le _ _ _ _
            rw [← hn] at hgo HA
            have hnx : l.getD j 0 = lastP s j (key3 s at_) := by rw [HX.out.2.2.1 j (by omega)]; unfold nxt; rw [if_pos hkj.1, hkj.2]
            have hlt := lastP_lt s j (key3 s at_)
            have hhit := lastP_hit s (key3 s at_) j
            have HSK := fun l2 b2 => goL_skip s at_ l2 b2 j (by omega) (by omega)
            have hcell : ∃ ad, A1 = some ad ∧ w1.cell? (ad.add j) = some (.int .i64 (l.getD j 0)) := by
              obtain ⟨ad, had, hc⟩ := ReadsInt.at_ HX.out.2.2.2.2 (j : Int) (by omega) (by omega)
              rw [Int.toNat_natCast, rd, Int.toNat_natCast] at hc
              exact ⟨ad, had, hc⟩
            obtain ⟨ad, rfl, hcell⟩ := hcell
            rw [hnx] at hcell
            clear hnx hkj
            obtain ⟨J3, hJ3⟩ : ∃ J3, J3 = lastP s j (key3 s at_) := ⟨_, rfl⟩
            rw [← hJ3] at hcell hlt hhit HSK
            clear hJ3
            have HG : Aside0 (_ ∧ _ ∧ _) := ⟨hgo, hhit, HSK⟩
            have hjl : j < l.length := by omega
            clear hgo hhit HSK HR hn
            go_wp2_with fail
            refine HA.out.mono ?_
            rintro e w2 ⟨rfl, ⟨⟨n2, rfl⟩⟩⟩
            clear HA
            rw [World.drewN_drewN]
            generalize nd + n2 = N
            by_cases hle : n ≤ ln
            · have qn : decide ((n : Int) ≤ (ln : Int)) = true := decide_eq_true (by omega)
              have qnn : decide (n ≤ ln) = true := decide_eq_true hle
              have HG2 : Aside0 (_ ∧ _) := ⟨by have := HG.out.1; rw [if_pos hle, HG.out.2.2] at this; exact this, fun h => (HG.out.2.1 h).2⟩
              clear HG
              go_wp2_with fail
              go_roundw
              case rel => exact ⟨J3, ln, bk, rfl, rfl, rfl, hlt.2, by omega, hln, ⟨HG2.out.1, HG2.out.2, ⟨⟨N, rfl⟩⟩⟩⟩
              case measure => simp [intOf]; omega
            · have qn : decide ((n : Int) ≤ (ln : Int)) = false := decide_eq_false (by omega)
              have qnn : decide (n ≤ ln) = false := decide_eq_false hle
              have ecast : ((at_ - j : Nat) : Int) = (at_ : Int) - (j : Int) := by omega
              by_cases h258 : n = 258
              · have qb : ((n : Int) == 258) = true := by rw [beq_iff_eq]; omega
                have HG2 : Aside0 (_) := ⟨by have := HG.out.1; rw [if_neg hle, if_pos h258] at this; exact this⟩
                clear HG
                go_wp2_with fail
                repeat (rw [Exit.noGoto_ret])
                go_returns
                subst h258
                rw [HE.out, HG2.out, ecast]
                exact ⟨rfl, HF.out.1.drawn ⟨⟨_, rfl⟩⟩, HF.out.2.drewN _⟩
              · have qb : ((n : Int) == 258) = false := by rw [beq_eq_false_iff_ne]; omega
                have HG2 : Aside0 (_ ∧ _) := ⟨by have := HG.out.1; rw [if_neg hle, if_neg h258, HG.out.2.2] at this; exact this, fun h => (HG.out.2.1 h).2⟩
                clear HG
                go_wp2_with fail
                go_roundw
                case rel => exact ⟨J3, n, at_ - j, rfl, rfl, by rw [ecast], hlt.2, by omega, hn258, ⟨HG2.out.1, HG2.out.2, ⟨⟨N, rfl⟩⟩⟩⟩
                case measure => simp [intOf]; omega
        · have qg : decide (0 ≤ J2) = false := decide_eq_false hjn
          have hgo := HR.out.1
          rw [show (J2 + 1).toNat = 0 by omega, goL] at hgo
          have HG := Aside0.mk hgo
          clear hgo HR
          go_wp2_with fail
          repeat (rw [Exit.noGoto_ret])
          go_returns
          rw [HE.out, HG.out]
          exact ⟨rfl, HF.out.1.drawn ⟨⟨_, rfl⟩⟩, HF.out.2.drewN _⟩
end Go.Proofs.Ytfoicjlkbkjfjaa.Hand
