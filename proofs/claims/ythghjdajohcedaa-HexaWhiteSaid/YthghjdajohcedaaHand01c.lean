/- octet.Line, and the law's own 'lines': loops over the iterator octet.Lines. -/
import Derived.Test.YthghjdajohcedaaHand01b
namespace Go.Proofs.Ythghjdajohcedaa.Hand
open Go.RowKit Go.Shelf Go.Proofs.YthghjdajohcedaaW.PrintWords Go.Proofs.YthghjdajohcedaaW.PrintLast Go.Proofs.YthghjdajohcedaaW.PrintMore Go.Proofs.Ythghjdajohcedaa.Num Go.Proofs.Ythghjdajohcedaa.P01a
set_option linter.unusedVariables false
set_option linter.unusedSimpArgs false
attribute [local go_sem] Oper.semAt_some

/-- Does a line's beginning answer? -/
def hasF (t word : ByteArray) : Bool := decide (word.size ≤ t.size) && ((t.extract 0 word.size).toList == word.toList)
theorem has_f (t word : ByteArray) : strings_HasPrefix.f t word = some (hasF t word) := by
  unfold strings_HasPrefix.f stringslite_HasPrefix.f hasF
  by_cases h : word.size ≤ t.size
  · rw [if_pos (by omega), if_pos (by omega), if_pos (by omega), decide_eq_true h, Int.toNat_natCast]; rfl
  · rw [if_neg (by omega), decide_eq_false h]; rfl
def hitN (s word : ByteArray) (frm : Int) (x : Nat) : Bool := decide (frm ≤ (x : Int)) && hasF (s.extract x s.size) word
def lineF (s : ByteArray) (frm : Int) (word : ByteArray) : Int := match (linesN s).find? (hitN s word frm) with | some x => (x : Int) | none => -1
def octet_Line.f (a0 : ByteArray) (a1 : Int) (a2 : ByteArray) : Option Int := if a0.size ≤ 1000000 then some (lineF a0 a1 a2) else none

theorem keepsN (W : World) (k : Nat) : KeepsOthers W (W.drewN k) := KeepsOthers.of_grownBy (drewN_grown W k) (fun r o e => by cases e)
set_option maxRecDepth 100000 in
set_option maxHeartbeats 8000000 in
theorem line_in (n : Nat) (hn : 3 ≤ n) (s : ByteArray) (frm : Int) (word : ByteArray) (hs : s.size ≤ 1000000) (w : World) :
    CallsIn Fence.wide n Try.prog 29 #[.string s, .int .i64 frm, .string word] w fun e W' => e = .returned (.int .i64 (lineF s frm word)) ∧ Below w.heap.size w W' := by
  have h1 : 1 ≤ n := by omega
  have hmix : Try.prog.follows Departure.mixedOrders = true := by kernel_rfl
  refine callsIn_of_wp_marks Try.func29 rfl trivial ?_ rfl
  simp only [Try.ntmps29, List.size_toArray, List.length_cons, List.length_nil, Nat.reduceAdd, Nat.reduceSub, Array.replicate_succ, Array.replicate_zero, List.push_toArray, List.append_toArray, List.nil_append, List.cons_append]
  gi_wp2_with (first | (refine ⟨trivial, ?_⟩; gi_at_call 26; refine callsIn_wide.2 ((octet_Lines_calls s _).mono ?_); rintro e w' ⟨rfl, rfl⟩))
  have p0 := ((((Boxed.new w 9 (.string s)).alloc (.cells #[.int .i64 frm] 3)).alloc (.cells #[.string word] 9)).alloc (.cells #[.int .i64 0] 3)).alloc (.cells #[.string s] 9)
  have p1 := (((Boxed.new (w.alloc (.cells #[.string s] 9)) 3 (.int .i64 frm)).alloc (.cells #[.string word] 9)).alloc (.cells #[.int .i64 0] 3)).alloc (.cells #[.string s] 9)
  have p2 := ((Boxed.new ((w.alloc (.cells #[.string s] 9)).alloc (.cells #[.int .i64 frm] 3)) 9 (.string word)).alloc (.cells #[.int .i64 0] 3)).alloc (.cells #[.string s] 9)
  have p3 := (Boxed.new (((w.alloc (.cells #[.string s] 9)).alloc (.cells #[.int .i64 frm] 3)).alloc (.cells #[.string word] 9)) 3 (.int .i64 0)).alloc (.cells #[.string s] 9)
  have p4 := Boxed.new ((((w.alloc (.cells #[.string s] 9)).alloc (.cells #[.int .i64 frm] 3)).alloc (.cells #[.string word] 9)).alloc (.cells #[.int .i64 0] 3)) 9 (.string s)
  simp only [World.size_alloc] at p1 p2 p3 p4
  have hB0 := below_alloc (below_alloc (below_alloc (below_alloc (below_alloc (Below.refl w.heap.size w) (.cells #[.string s] 9)) (.cells #[.int .i64 frm] 3)) (.cells #[.string word] 9)) (.cells #[.int .i64 0] 3)) (.cells #[.string s] 9)
  obtain ⟨w5, hw5⟩ : ∃ w5, w5 = ((((w.alloc (.cells #[.string s] 9)).alloc (.cells #[.int .i64 frm] 3)).alloc (.cells #[.string word] 9)).alloc (.cells #[.int .i64 0] 3)).alloc (.cells #[.string s] 9) := ⟨_, rfl⟩
  rw [← hw5] at p0 p1 p2 p3 p4 hB0 ⊢
  have hsz : w5.heap.size = w.heap.size + 1 + 1 + 1 + 1 + 1 := by rw [hw5]; simp only [World.size_alloc]
  clear hw5
  refine wpIn_rangeFunc_ownF rfl h1 (gf := 47) (lb := #[.pointer (some ⟨w.heap.size + 1 + 1 + 1 + 1, 0, none⟩)]) rfl trivial (enters_of Try.func47 (by kernel_rfl) rfl)
    (lines_stops (n - 1) (by omega) (w.heap.size + 1 + 1 + 1 + 1) s hs w5 (by omega) p4.cell) keepS_t (fun W l o o' a b c d => keepS_b (w := w5) W l o o' a b c d) (Below.refl _ _) (fun _ => rfl)
    (fun pre W => ((∀ y ∈ pre, hitN s word frm (clN s y) = false) ∧ Boxed W w.heap.size 9 (.string s) ∧ Boxed W (w.heap.size + 1) 3 (.int .i64 frm) ∧ Boxed W (w.heap.size + 1 + 1) 9 (.string word) ∧ Boxed W (w.heap.size + 1 + 1 + 1) 3 (.int .i64 0)) ∧ Below w.heap.size w W)
    (fun c pre W => (c = .ret ∧ ∃ p x, pre = p ++ [x] ∧ (∀ y ∈ p, hitN s word frm (clN s y) = false) ∧ hitN s word frm (clN s x) = true ∧ Boxed W (w.heap.size + 1 + 1 + 1) 3 (.int .i64 (clN s x : Int))) ∧ Below w.heap.size w W)
    (OwnFrom.and (Own.from (fun pre A B row hs hg hr => ⟨hs.1, boxed_own w.heap.size 9 (fun _ : List Nat => .string s) pre A B row hs.2.1 hg hr, boxed_own (w.heap.size + 1) 3 (fun _ : List Nat => .int .i64 frm) pre A B row hs.2.2.1 hg hr, boxed_own (w.heap.size + 1 + 1) 9 (fun _ : List Nat => .string word) pre A B row hs.2.2.2.1 hg hr, boxed_own (w.heap.size + 1 + 1 + 1) 3 (fun _ : List Nat => .int .i64 0) pre A B row hs.2.2.2.2 hg hr⟩) _) (ownFrom_below (Nat.le_refl _) (by omega)))
    (fun c => OwnFrom.and (Own.from (fun pre A B row hs hg hr => ⟨hs.1, by
      obtain ⟨_, p, x, h1, h2, h3, h4⟩ := hs
      exact ⟨p, x, h1, h2, h3, boxed_own (w.heap.size + 1 + 1 + 1) 3 (fun _ : List Nat => .int .i64 (clN s x : Int)) pre A B row h4 hg hr⟩⟩) _) (ownFrom_below (Nat.le_refl _) (by omega)))
    ⟨⟨by simp, p0, p1, p2, p3⟩, hB0⟩
    (fun x => { tmps := #[.string s, .int .i64 frm, .string word, .pointer (some ⟨w.heap.size, 0, none⟩), .pointer (some ⟨w.heap.size + 1, 0, none⟩), .pointer (some ⟨w.heap.size + 1 + 1, 0, none⟩), .pointer (some ⟨w.heap.size + 1 + 1 + 1, 0, none⟩), .int .i64 (clN s x : Int), .string s, .func (.func 47) #[] #[.pointer (some ⟨w.heap.size + 1 + 1 + 1 + 1, 0, none⟩)], .int .i64 (clN s x : Int), undef, undef, undef, undef, undef, undef, undef, undef, undef, undef, undef], defers := [] }) ?assign ?body ?done ?stop
  case assign =>
    intro l x W K hK
    gi_wp2
    exact hK
  case body =>
    clear p0 p1 p2 p3 p4 hB0
    rintro l pre x W ⟨⟨hne, b0, b1, b2, b3⟩, hB⟩ _
    have c0 := b0.cell
    have c1 := b1.cell
    have c2 := b2.cell
    have c3 := b3.cell
    have f3 := b3.frozen
    have hle := clN_le s x
    obtain ⟨y, hy⟩ : ∃ y : Nat, y = clN s x := ⟨_, rfl⟩
    rw [← hy] at hle ⊢
    have ksl : ∀ W : World, (Instr.slice 9 (.string s) (some (.int .i64 (y : Int))) none none).run Try.prog W = .ok (.string (s.extract y s.size)) W := fun W => by
      have := run_slice_string_l (P := Try.prog) W 9 s Try.underlying9 .i64 (y : Int) (by omega) (by omega)
      rwa [show ((y : Int)).toNat = y by omega] at this
    have hsn : ∀ p : List Nat, (∀ z ∈ p, hitN s word frm (clN s z) = false) → hitN s word frm y = false → ∀ z ∈ p ++ [x], hitN s word frm (clN s z) = false := fun p h1 h2 z hz => by
      rcases List.mem_append.1 hz with h | h
      · exact h1 z h
      · rw [List.mem_singleton.1 h, ← hy]; exact h2
    have HSN := Aside0.mk hsn
    have HY := Aside0.mk hy
    clear hsn hy
    by_cases hge : frm ≤ (y : Int)
    · have q1 : decide (frm ≤ (y : Int)) = true := decide_eq_true hge
      have HH := Aside0.mk (has_f (s.extract y s.size) word)
      by_cases hh : hasF (s.extract y s.size) word = true
      · have hhit : hitN s word frm y = true := by unfold hitN; rw [q1, hh]; rfl
        have HHIT := Aside0.mk hhit
        clear hhit
        gi_wp2_with fail
        gi_region_with_o (refine ⟨trivial, fun _ => (by omega), ?_⟩; gi_at_call 49; refine (CallsIn.inRound l (callsIn_wide.2 (strings_HasPrefix.calls (s.extract y s.size) word _ _ HH.out))).mono ?_; rintro e w' ⟨rfl, ⟨nd, rfl⟩⟩)
        all_goals gi_wp2
        all_goals exact ⟨(keepsN W _).trans (KeepsOthers.setCell _ _ _), ⟨rfl, pre, x, rfl, hne, (by rw [← HY.out]; exact HHIT.out), (by rw [← HY.out]; exact Boxed.set _ (show Boxed (W.drewN _) _ _ _ from b3))⟩, (pw_below_drewN hB _).setCell (p := ⟨w.heap.size + 1 + 1 + 1, 0, none⟩) (by show w.heap.size ≤ w.heap.size + 1 + 1 + 1; omega) _⟩
      · have hh2 : hasF (s.extract y s.size) word = false := by simpa using hh
        have hhit : hitN s word frm y = false := by unfold hitN; rw [q1, hh2]; rfl
        have HHIT := Aside0.mk hhit
        clear hhit hh
        rw [hh2] at HH
        clear hh2
        gi_wp2_with fail
        gi_region_with_o (refine ⟨trivial, fun _ => (by omega), ?_⟩; gi_at_call 49; refine (CallsIn.inRound l (callsIn_wide.2 (strings_HasPrefix.calls (s.extract y s.size) word _ _ HH.out))).mono ?_; rintro e w' ⟨rfl, ⟨nd, rfl⟩⟩)
        all_goals gi_wp2
        all_goals exact ⟨keepsN W _, fun e => e, ⟨HSN.out pre hne HHIT.out, b0, b1, b2, b3⟩, pw_below_drewN hB _⟩
    · have q1 : decide (frm ≤ (y : Int)) = false := decide_eq_false hge
      have hhit : hitN s word frm y = false := by unfold hitN; rw [q1]; rfl
      have HHIT := Aside0.mk hhit
      clear hhit
      gi_wp2_with fail
      gi_region_with_o (refine ⟨trivial, ?_⟩)
      all_goals gi_wp2
      all_goals exact ⟨keepsN W _, fun e => e, ⟨HSN.out pre hne HHIT.out, b0, b1, b2, b3⟩, pw_below_drewN hB _⟩
  case done =>
    rintro D ys W hD rfl ⟨⟨hne, b0, b1, b2, b3⟩, hB⟩ hK
    have c3 := b3.cell
    have f3 := b3.frozen
    have hres : lineF s frm word = -1 := by
      unfold lineF
      have : (linesN s).find? (hitN s word frm) = none := List.find?_eq_none.2 (fun y hy => by
        have := hne y hy
        rw [clN_lt s y (linesFrom_lt s _ _ y hy)] at this
        rw [this]; decide)
      rw [this]
    have HRES := Aside0.mk hres
    clear hres
    gi_wp2
    have hK' := (KeepsOthers.setCell W ⟨w.heap.size + 1 + 1 + 1, 0, none⟩ (.int .i64 (-1))).same D _ hK rfl
    refine ⟨by simp, .inl ⟨_, _, rfl, run_takeDeferred hK', ?_⟩⟩
    have hc5 := cell_kept (World.cell?_setCell_same' W ⟨w.heap.size + 1 + 1 + 1, 0, none⟩ (.int .i64 (-1)) (by rw [c3]; rfl)) (grownBy_putObj' _ D (.deferred none)) (fun r e => by cases e; exact ⟨_, hK', rfl⟩)
    refine ⟨.int .i64 (-1), ?_, by rw [HRES.out], (hB.setCell (p := ⟨w.heap.size + 1 + 1 + 1, 0, none⟩) (by show w.heap.size ≤ w.heap.size + 1 + 1 + 1; omega) _).trans (belowK_b (w := w) (Nat.le_refl _) _ D _ _ (by omega) hK' rfl rfl)⟩
    simp [results, Try.f29, go_sem, hc5]
  case stop =>
    rintro D c pre W hD hpre ⟨⟨rfl, p, x, rfl, h2, h3, h4⟩, hB⟩ hK
    have c4 := h4.cell
    obtain ⟨t, ht⟩ := hpre
    have hx : x < s.size := linesFrom_lt s s.size 0 x (by
      have : x ∈ linesN s := by rw [← ht]; simp
      exact this)
    have hres : lineF s frm word = (clN s x : Int) := by
      unfold lineF
      rw [clN_lt s x hx] at h3 ⊢
      have hp : p.find? (hitN s word frm) = none := List.find?_eq_none.2 (fun y hy => by
        have := h2 y hy
        rw [clN_lt s y (linesFrom_lt s s.size 0 y (by
          have : y ∈ linesN s := by rw [← ht]; simp [hy]
          exact this))] at this
        rw [this]; decide)
      rw [← ht, List.append_assoc, List.find?_append, hp, Option.none_or, List.singleton_append, List.find?_cons_of_pos h3]
    have HRES := Aside0.mk hres
    clear hres
    gi_wp2
    refine ⟨by simp, .inl ⟨_, _, rfl, run_takeDeferred hK, ?_⟩⟩
    have hc5 := cell_kept c4 (grownBy_putObj' _ D (.deferred none)) (fun r e => by cases e; exact ⟨_, hK, rfl⟩)
    refine ⟨.int .i64 (clN s x : Int), ?_, by rw [HRES.out], hB.trans (belowK_b (w := w) (Nat.le_refl _) W D _ _ (by omega) hK rfl rfl)⟩
    simp [results, Try.f29, go_sem, hc5]
theorem octet_Line.calls (a0 : ByteArray) (a1 : Int) (a2 : ByteArray) (r : Int) (w : World) (h : octet_Line.f a0 a1 a2 = some r) :
    Calls Try.prog 29 #[.string a0, .int .i64 a1, .string a2] w fun e w' => e = .returned (.int .i64 r) ∧ Below w.heap.size w w' := by
  unfold octet_Line.f at h
  by_cases hs : a0.size ≤ 1000000
  · rw [if_pos hs] at h
    obtain rfl := Option.some.inj h
    exact callsIn_wide.1 (line_in 3 (by omega) a0 a1 a2 hs w)
  · rw [if_neg hs] at h; cases h
end Go.Proofs.Ythghjdajohcedaa.Hand
