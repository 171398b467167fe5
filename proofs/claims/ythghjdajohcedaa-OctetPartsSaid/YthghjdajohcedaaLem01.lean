/- Where lines begin: the document's own search and the iterator's are alike. -/
import Derived.Test.YthghjdajohcedaaHand01e
import Derived.Test.YthghjdajohcedaaP01bx
namespace Go.Proofs.Ythghjdajohcedaa.Lem01
open Go.RowKit Go.Proofs.YthghjdajohcedaaW.PrintWords Go.Proofs.YthghjdajohcedaaW.PrintLast Go.Proofs.Ythghjdajohcedaa.Hand Go.Proofs.Ythghjdajohcedaa.Num Go.Proofs.Ythghjdajohcedaa.P01b
set_option linter.unusedVariables false

/-- Does a line begin there? -/
def begB (s : ByteArray) (i : Nat) : Bool := decide (i < s.size) && (decide (i = 0) || decide (bt s ((i - 1 : Nat) : Int) = 10) || (decide (bt s ((i - 1 : Nat) : Int) = 13) && decide (bt s (i : Int) ≠ 10)))
theorem begins_f (s : ByteArray) (i : Nat) (hs : s.size ≤ 1000000) (hi : i < s.size) (k : Nat) : binderyref01_Begins.f (k + 1) s i = some (begB s i) := by
  unfold binderyref01_Begins.f
  rw [if_neg (by omega), decide_eq_false (by omega)]
  simp only [binderyref01_Begins.j0]
  unfold begB
  rw [if_neg (by decide), decide_eq_true hi, Bool.true_and]
  by_cases h0 : i = 0
  · rw [if_pos (by omega), decide_eq_true h0]; rfl
  · rw [if_neg (by omega), decide_eq_false h0, Bool.false_or]
    have e : (i : Int) - 1 = ((i - 1 : Nat) : Int) := by omega
    rw [e, w64 (by omega) (by omega), if_pos (by omega), if_pos (by omega)]
    by_cases h1 : bt s ((i - 1 : Nat) : Int) = 10
    · rw [if_pos h1, decide_eq_true h1]; rfl
    · rw [if_neg h1, decide_eq_false h1, Bool.false_or]
      by_cases h2 : bt s ((i - 1 : Nat) : Int) = 13
      · rw [if_pos h2, if_pos (by omega), if_pos (by omega), decide_eq_true h2, Bool.true_and]
        congr 1
        by_cases h3 : bt s (i : Int) = 10
        · rw [decide_eq_false (fun h => h h3), h3]; rfl
        · rw [decide_eq_true h3]; exact bne_iff_ne.2 h3
      · rw [if_neg h2, decide_eq_false h2, Bool.false_and]
/-- The lines' beginnings from a place on. -/
def begF (s : ByteArray) : Nat → Nat → List Nat
  | 0, _ => []
  | f + 1, i => if begB s i then i :: begF s f (i + 1) else begF s f (i + 1)
def begL (s : ByteArray) (i : Nat) : List Nat := begF s (s.size - i) i
theorem begL_end (s : ByteArray) (i : Nat) (h : s.size ≤ i) : begL s i = [] := by unfold begL; rw [show s.size - i = 0 by omega]; rfl
theorem begL_yes (s : ByteArray) (i : Nat) (h : i < s.size) (hb : begB s i = true) : begL s i = i :: begL s (i + 1) := by
  unfold begL; rw [show s.size - i = (s.size - (i + 1)) + 1 by omega, begF, if_pos hb]
theorem begL_no (s : ByteArray) (i : Nat) (h : i < s.size) (hb : begB s i = false) : begL s i = begL s (i + 1) := by
  unfold begL; rw [show s.size - i = (s.size - (i + 1)) + 1 by omega, begF, if_neg (by rw [hb]; decide)]
theorem begL_skip (s : ByteArray) (e : Nat) (he : e ≤ s.size) : ∀ d i, i + d = e → (∀ j, i ≤ j → j < e → begB s j = false) → begL s i = begL s e
  | 0, i, hd, h => by rw [show i = e by omega]
  | d + 1, i, hd, h => by
    rw [begL_no s i (by omega) (h i (Nat.le_refl _) (by omega))]
    exact begL_skip s e he d (i + 1) (by omega) (fun j h1 h2 => h j (by omega) h2)
theorem ends_zero (s : ByteArray) (i : Nat) (hi : i < s.size) (h : endsN s i = 0) : bt s (i : Int) ≠ 10 ∧ bt s (i : Int) ≠ 13 := by
  unfold endsN at h
  rw [if_pos hi] at h
  by_cases h1 : bt s (i : Int) = 10
  · rw [if_pos h1] at h; cases h
  · rw [if_neg h1] at h
    by_cases h2 : bt s (i : Int) = 13
    · rw [if_pos h2] at h; split at h <;> cases h
    · exact ⟨h1, h2⟩
theorem scan_zero (s : ByteArray) : ∀ d i, d = s.size - i → ∀ j, i ≤ j → j < endAt s i → j < s.size ∧ endsN s j = 0
  | 0, i, hd, j, h1, h2 => by unfold endAt at h2; rw [← hd, scanN] at h2; omega
  | d + 1, i, hd, j, h1, h2 => by
    unfold endAt at h2
    by_cases h : i < s.size ∧ endsN s i = 0
    · rw [scanN_step s i h] at h2
      by_cases hj : j = i
      · subst hj; exact h
      · exact scan_zero s d (i + 1) (by omega) j (by omega) h2
    · rw [scanN_stop s _ i h] at h2; omega
theorem begB_no (s : ByteArray) (j : Nat) (h0 : j ≠ 0) (h1 : bt s ((j - 1 : Nat) : Int) ≠ 10) (h2 : bt s ((j - 1 : Nat) : Int) ≠ 13) : begB s j = false := by
  unfold begB
  rw [decide_eq_false h0, decide_eq_false h1, decide_eq_false h2, Bool.false_and, Bool.false_or, Bool.false_or, Bool.and_false]
/-- From a beginning to the next one there is none, and the next one is one. -/
theorem next_beg (s : ByteArray) (i : Nat) (hi : i < s.size) : (∀ j, i < j → j < nextN s i → begB s j = false) ∧ (nextN s i < s.size → begB s (nextN s i) = true) := by
  have hz := scan_zero s _ i rfl
  have hle := endAt_le s _ i rfl (by omega)
  have hge : i ≤ endAt s i := scanN_ge s _ _
  have hend := endAt_end s _ i rfl
  unfold nextN
  generalize endAt s i = e at *
  have hno : ∀ j, i < j → j ≤ e → begB s j = false := fun j h1 h2 => by
    obtain ⟨h3, h4⟩ := hz (j - 1) (by omega) (by omega)
    obtain ⟨h5, h6⟩ := ends_zero s _ h3 h4
    exact begB_no s j (by omega) h5 h6
  unfold endsN
  by_cases he : e < s.size
  · rw [if_pos he]
    by_cases h1 : bt s (e : Int) = 10
    · rw [if_pos h1]
      refine ⟨fun j h2 h3 => hno j h2 (by omega), fun h2 => ?_⟩
      unfold begB
      rw [decide_eq_true h2, Nat.add_sub_cancel, decide_eq_true h1]; simp
    · rw [if_neg h1]
      by_cases h2 : bt s (e : Int) = 13
      · rw [if_pos h2]
        by_cases h3 : e + 1 < s.size ∧ bt s ((e + 1 : Nat) : Int) = 10
        · rw [if_pos h3]
          refine ⟨fun j h4 h5 => ?_, fun h4 => ?_⟩
          · by_cases h6 : j = e + 1
            · subst h6
              unfold begB
              rw [Nat.add_sub_cancel, decide_eq_false h1, decide_eq_false (show ¬ (bt s ((e + 1 : Nat) : Int) ≠ 10) from fun h => h h3.2), decide_eq_false (by omega : ¬ e + 1 = 0)]; simp
            · exact hno j h4 (by omega)
          · unfold begB
            rw [decide_eq_true h4, show e + 2 - 1 = e + 1 by omega, decide_eq_true h3.2]; simp
        · rw [if_neg h3]
          refine ⟨fun j h4 h5 => hno j h4 (by omega), fun h4 => ?_⟩
          have h5 : bt s ((e + 1 : Nat) : Int) ≠ 10 := fun h => h3 ⟨h4, h⟩
          unfold begB
          rw [decide_eq_true h4, Nat.add_sub_cancel, decide_eq_true h2, decide_eq_true h5]; simp
      · rw [if_neg h2]
        exact ⟨fun j h3 h4 => hno j h3 (by omega), fun h3 => absurd ⟨he, by unfold endsN; rw [if_pos he, if_neg h1, if_neg h2]⟩ hend⟩
  · rw [if_neg he]
    exact ⟨fun j h3 h4 => hno j h3 (by omega), fun h3 => absurd h3 (by omega)⟩
theorem linesFrom_beg (s : ByteArray) : ∀ f i, s.size - i ≤ f → i ≤ s.size → (i < s.size → begB s i = true) → linesFrom s f i = begL s i
  | 0, i, hf, hi, _ => by rw [linesFrom, begL_end s i (by omega)]
  | f + 1, i, hf, hi, hb => by
    rw [linesFrom]
    by_cases h : i < s.size
    · have hgt := nextN_gt s i h
      have hle := nextN_le s i hi
      obtain ⟨h1, h2⟩ := next_beg s i h
      rw [if_pos h, linesFrom_beg s f (nextN s i) (by omega) hle h2, begL_yes s i h (hb h)]
      rw [begL_skip s (nextN s i) hle (nextN s i - (i + 1)) (i + 1) (by omega) (fun j h3 h4 => h1 j (by omega) h4)]
    · rw [if_neg h, begL_end s i (by omega)]
theorem linesN_beg (s : ByteArray) : linesN s = begL s 0 :=
  linesFrom_beg s s.size 0 (by omega) (by omega) (fun h => by unfold begB; rw [decide_eq_true h]; rfl)
theorem begL_len (s : ByteArray) : ∀ d i, i + d = s.size → (begL s i).length ≤ d
  | 0, i, h => by rw [begL_end s i (by omega)]; exact Nat.le_refl _
  | d + 1, i, h => by
    have := begL_len s d (i + 1) (by omega)
    cases hb : begB s i with
    | true => rw [begL_yes s i (by omega) hb, List.length_cons]; omega
    | false => rw [begL_no s i (by omega) hb]; omega
theorem lines_ref (s : ByteArray) (hs : s.size ≤ 2000) : ∀ (d i : Nat) (xs : List Int), i + d = s.size → xs.length ≤ i →
    Ev (fun k => binderyref01_Lines.l0 k s xs i) (xs ++ (begL s i).map (fun x : Nat => (x : Int))) := by
  intro d
  induction d with
  | zero =>
    intro i xs hd hx
    refine ⟨1, fun k hk => ?_⟩
    obtain ⟨k, rfl⟩ : ∃ m, k = m + 1 := ⟨k - 1, by omega⟩
    simp only [binderyref01_Lines.l0]
    rw [if_neg (by omega), begL_end s i (by omega), List.map_nil, List.append_nil]
  | succ d ih =>
    intro i xs hd hx
    have ew : (i : Int) + 1 = ((i + 1 : Nat) : Int) := by omega
    cases hb : begB s i with
    | true =>
      obtain ⟨K, h⟩ := ih (i + 1) (xs ++ [(i : Int)]) (by omega) (by rw [List.length_append, List.length_singleton]; omega)
      refine ⟨K + 2, fun k hk => ?_⟩
      obtain ⟨k, rfl⟩ : ∃ m, k = m + 1 + 1 := ⟨k - 2, by omega⟩
      dsimp only
      rw [binderyref01_Lines.l0]
      rw [if_pos (by omega), begins_f s i (by omega) (by omega), Option.bind_some, if_pos hb, if_pos (by omega), w64 (by omega) (by omega), ew, begL_yes s i (by omega) hb]
      have h := h (k + 1) (by omega)
      dsimp only at h
      rw [h, List.append_assoc]; rfl
    | false =>
      obtain ⟨K, h⟩ := ih (i + 1) xs (by omega) (by omega)
      refine ⟨K + 2, fun k hk => ?_⟩
      obtain ⟨k, rfl⟩ : ∃ m, k = m + 1 + 1 := ⟨k - 2, by omega⟩
      dsimp only
      rw [binderyref01_Lines.l0]
      rw [if_pos (by omega), begins_f s i (by omega) (by omega), Option.bind_some, if_neg (by rw [hb]; decide), w64 (by omega) (by omega), ew, begL_no s i (by omega) hb]
      exact h (k + 1) (by omega)
/-- The document's lines are the iterator's. -/
theorem lines_ev (s : ByteArray) (hs : s.size ≤ 2000) : Ev (fun k => binderyref01_Lines.f k s) (lineNums s) := by
  have h := lines_ref s hs s.size 0 [] (by omega) (Nat.le_refl _)
  rw [List.nil_append, ← linesN_beg] at h
  exact h
/-! The beginnings, one behind the other, and the text's end. -/
theorem linesFrom_nil (s : ByteArray) (f i : Nat) (h : s.size ≤ i) : linesFrom s f i = [] := by
  cases f with
  | zero => rfl
  | succ f => rw [linesFrom, if_neg (by omega)]
theorem from_chain (s : ByteArray) : ∀ f i, s.size - i ≤ f → i ≤ s.size → ∀ j, j + 1 < (linesFrom s f i ++ [s.size]).length →
    (linesFrom s f i ++ [s.size]).getD j 0 < s.size ∧ (linesFrom s f i ++ [s.size]).getD (j + 1) 0 = nextN s ((linesFrom s f i ++ [s.size]).getD j 0)
  | 0, i, hf, hi, j, hj => by simp [linesFrom] at hj
  | f + 1, i, hf, hi, j, hj => by
    by_cases h : i < s.size
    · have hgt := nextN_gt s i h
      have hle := nextN_le s i hi
      have ih := from_chain s f (nextN s i) (by omega) hle
      rw [linesFrom, if_pos h] at hj ⊢
      rw [List.cons_append] at hj ⊢
      cases j with
      | succ j =>
        rw [List.getD_cons_succ, List.getD_cons_succ]
        exact ih j (by simpa using hj)
      | zero =>
        rw [List.getD_cons_zero, List.getD_cons_succ]
        refine ⟨h, ?_⟩
        by_cases hn : nextN s i < s.size
        · cases f with
          | zero => omega
          | succ f => rw [linesFrom, if_pos hn]; rfl
        · rw [linesFrom_nil s f _ (by omega)]
          show s.size = _
          omega
    · rw [linesFrom, if_neg h] at hj
      simp at hj
theorem lines_chain (s : ByteArray) (j : Nat) (hj : j + 1 < (lineNums s ++ [(s.size : Int)]).length) : ∃ b : Nat, b < s.size ∧ (lineNums s ++ [(s.size : Int)]).getD j 0 = (b : Int) ∧ (lineNums s ++ [(s.size : Int)]).getD (j + 1) 0 = ((nextN s b : Nat) : Int) := by
  have e : lineNums s ++ [(s.size : Int)] = (linesN s ++ [s.size]).map (fun x : Nat => (x : Int)) := by rw [List.map_append]; rfl
  have hg : ∀ n, (lineNums s ++ [(s.size : Int)]).getD n 0 = (((linesN s ++ [s.size]).getD n 0 : Nat) : Int) := fun n => by
    rw [e, List.getD_eq_getElem?_getD, List.getElem?_map, List.getD_eq_getElem?_getD]
    cases (linesN s ++ [s.size])[n]? <;> rfl
  rw [e, List.length_map] at hj
  have h := from_chain s s.size 0 (by omega) (by omega) j hj
  change (linesN s ++ [s.size]).getD j 0 < s.size ∧ (linesN s ++ [s.size]).getD (j + 1) 0 = nextN s ((linesN s ++ [s.size]).getD j 0) at h
  exact ⟨_, h.1, hg j, by rw [hg, h.2]⟩
theorem lineNums_len (s : ByteArray) : (lineNums s).length ≤ s.size := by
  rw [lineNums, List.length_map, linesN_beg]; exact begL_len s s.size 0 (by omega)

/-! The first line that begins with a word. -/
theorem stands_f (s : ByteArray) (i : Nat) (hs : s.size ≤ 1000000) (hi : i < s.size) (word : ByteArray) (hw : word.size ≤ 1000000) : binderyref01_Stands.f s i word = some (hasF (s.extract i s.size) word) := by
  unfold binderyref01_Stands.f hasF
  have e2 : (s.extract i s.size).size = s.size - i := by rw [ByteArray.size_extract]; omega
  rw [if_pos (by omega), if_pos (by omega), w64 (by omega) (by omega), w64 (by omega) (by omega), e2]
  by_cases h : (word.size : Int) ≤ (s.size : Int) - i
  · rw [if_pos h, if_pos (by omega), if_pos (by omega), if_pos (by omega), decide_eq_true (by omega), Bool.true_and]
    have e3 : (s.extract i s.size).extract 0 word.size = s.extract i (i + word.size) := by
      apply bytes_ext
      rw [bytesOf_extract, bytesOf_extract, bytesOf_extract, List.drop_zero, List.take_of_length_le (l := bytesOf s) (by rw [bytesOf_length]; exact Nat.le_refl _), List.take_drop]
    rw [e3, Int.toNat_natCast, show ((i : Int) + (word.size : Int)).toNat = i + word.size by omega]
  · rw [if_neg h, decide_eq_false (by omega), Bool.false_and]
def findB (s word : ByteArray) (frm : Int) (i : Nat) : Int := match (begL s i).find? (hitN s word frm) with | some x => (x : Int) | none => -1
theorem findB_eq (s word : ByteArray) (frm : Int) : lineF s frm word = findB s word frm 0 := by unfold lineF findB; rw [linesN_beg]; rfl
theorem line_ref (s word : ByteArray) (frm : Int) (hs : s.size ≤ 2000) (hw : word.size ≤ 2000) : ∀ (d i : Nat), i + d = s.size →
    Ev (fun k => binderyref01_Line.l0 k s frm word i) (findB s word frm i) := by
  intro d
  induction d with
  | zero =>
    intro i hd
    refine ⟨1, fun k hk => ?_⟩
    obtain ⟨k, rfl⟩ : ∃ m, k = m + 1 := ⟨k - 1, by omega⟩
    simp only [binderyref01_Line.l0]
    rw [if_neg (by omega)]
    unfold findB
    rw [begL_end s i (by omega)]; rfl
  | succ d ih =>
    intro i hd
    have ew : (i : Int) + 1 = ((i + 1 : Nat) : Int) := by omega
    obtain ⟨K, h⟩ := ih (i + 1) (by omega)
    have hno : (begB s i = true → hitN s word frm i = false) → findB s word frm i = findB s word frm (i + 1) := fun hh => by
      unfold findB
      cases hb : begB s i with
      | true => rw [begL_yes s i (by omega) hb, List.find?_cons_of_neg (by rw [hh hb]; decide)]
      | false => rw [begL_no s i (by omega) hb]
    refine ⟨K + 2, fun k hk => ?_⟩
    obtain ⟨k, rfl⟩ : ∃ m, k = m + 1 + 1 := ⟨k - 2, by omega⟩
    have h := h (k + 1) (by omega)
    dsimp only at h
    dsimp only
    rw [binderyref01_Line.l0]
    rw [if_pos (by omega), w64 (by omega) (by omega), ew]
    by_cases hf : (i : Int) ≥ frm
    · rw [if_pos hf, begins_f s i (by omega) (by omega), Option.bind_some]
      cases hb : begB s i with
      | true =>
        rw [if_pos rfl, stands_f s i (by omega) (by omega) word (by omega), Option.bind_some]
        cases hh : hasF (s.extract i s.size) word with
        | true =>
          rw [if_pos rfl]
          unfold findB
          rw [begL_yes s i (by omega) hb, List.find?_cons_of_pos (by unfold hitN; rw [hh, decide_eq_true hf]; rfl)]
        | false =>
          rw [if_neg (by decide), hno (fun _ => by unfold hitN; rw [hh, Bool.and_false])]
          exact h
      | false =>
        rw [if_neg (by decide), hno (fun h => by rw [hb] at h; cases h)]
        exact h
    · rw [if_neg hf, hno (fun _ => by unfold hitN; rw [decide_eq_false hf, Bool.false_and])]
      exact h
theorem line_ev (s word : ByteArray) (frm : Int) (hs : s.size ≤ 2000) (hw : word.size ≤ 2000) : Ev (fun k => binderyref01_Line.f k s frm word) (lineF s frm word) := by
  rw [findB_eq]
  exact line_ref s word frm hs hw s.size 0 (by omega)
end Go.Proofs.Ythghjdajohcedaa.Lem01
