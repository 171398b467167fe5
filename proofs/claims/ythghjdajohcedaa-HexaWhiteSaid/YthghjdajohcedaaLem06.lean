/- Digits and bytes: the plain laws of layer 6. -/
import Derived.Test.YthghjdajohcedaaP06x
import Derived.Test.YthghjdajohcedaaNum
namespace Go.Proofs.Ythghjdajohcedaa.Lem06
open Go.RowKit Go.Proofs.Ythghjdajohcedaa.P06 Go.Proofs.YthghjdajohcedaaW.PrintWords Go.Proofs.YthghjdajohcedaaW.PrintLast Go.Proofs.Ythghjdajohcedaa.Hand Go.Proofs.Ythghjdajohcedaa.Num
set_option linter.unusedVariables false

theorem digits_true : binderylaw06_digits.f = some true := by decide +kernel
theorem refdig_all : ∀ n : Fin 16, binderyref01_Digit.f ((n.val : Nat) : Int) = some (dgF ((n.val : Nat) : Int)) := by decide +kernel
theorem refdig {n : Int} (h0 : 0 ≤ n) (h1 : n ≤ 15) : binderyref01_Digit.f n = some (dgF n) := by
  obtain ⟨m, rfl⟩ := Int.eq_ofNat_of_zero_le h0
  exact refdig_all ⟨m, by omega⟩
theorem enc_ref (s : ByteArray) (hs : s.size ≤ 5000) : ∀ (d i : Nat) (xs : List Int), i + d = s.size → xs.length ≤ 2 * i →
    Ev (fun k => binderyref06_Encode.l0 k s xs i) (strOfNums (xs ++ hexL ((bytesOf s).drop i) ++ [62])) := by
  intro d
  induction d with
  | zero =>
    intro i xs hd hx
    refine ⟨1, fun k hk => ?_⟩
    obtain ⟨k, rfl⟩ : ∃ m, k = m + 1 := ⟨k - 1, by omega⟩
    simp only [binderyref06_Encode.l0]
    rw [if_neg (by omega), if_pos (by omega), List.drop_eq_nil_of_le (by rw [bytesOf_length]; omega)]
    simp [hexL]
  | succ d ih =>
    intro i xs hd hx
    have hb := bt_range s (i : Int)
    have ew : (i : Int) + 1 = ((i + 1 : Nat) : Int) := by omega
    obtain ⟨K, h⟩ := ih (i + 1) (xs ++ [dgF (bt s (i : Int) / 16), dgF (bt s (i : Int) % 16)]) (by omega) (by rw [List.length_append]; simp; omega)
    refine ⟨K + 1, fun k hk => ?_⟩
    obtain ⟨k, rfl⟩ : ∃ m, k = m + 1 := ⟨k - 1, by omega⟩
    have h := h k (by omega)
    dsimp only at h
    simp only [binderyref06_Encode.l0]
    rw [if_pos (by omega), if_pos (by omega), w64 (x := bt s (i : Int)) (by omega) (by omega), td _ hb.1, tm _ hb.1, w64 (x := bt s (i : Int) / 16) (by omega) (by omega), refdig (by omega) (by omega), Option.bind_some, refdig (by omega) (by omega), Option.bind_some, Option.bind_some,
      if_pos (by simp; omega), w64 (by omega) (by omega), ew, h, drop_bytes s i (by omega)]
    simp [hexL]
theorem enc_ev (s : ByteArray) (hs : s.size ≤ 5000) : Ev (fun k => binderyref06_Encode.f k s) (strOfNums (hexL (bytesOf s) ++ [62])) := by
  have h := enc_ref s hs s.size 0 [] (by omega) (Nat.le_refl _)
  rw [List.nil_append, List.drop_zero] at h
  exact h

/-! Digits, two by two. -/
def pr : List Int → List Int
  | a :: b :: t => (16 * a + b) :: pr t
  | _ => []
theorem pr_snoc (a b : Int) : ∀ es : List Int, es.length % 2 = 0 → pr (es ++ [a, b]) = pr es ++ [16 * a + b]
  | [], _ => rfl
  | [x], h => by simp at h
  | x :: y :: t, h => by
    show (16 * x + y) :: pr (t ++ [a, b]) = (16 * x + y) :: (pr t ++ [16 * a + b])
    rw [pr_snoc a b t (by simp at h ⊢; omega)]
theorem pr_drop : ∀ (es : List Int) (j : Nat), j % 2 = 0 → j + 1 < es.length → pr (es.drop j) = (16 * es.getD j 0 + es.getD (j + 1) 0) :: pr (es.drop (j + 2))
  | es, 0, _, h => by
    match es, h with
    | a :: b :: t, _ => rfl
  | a :: b :: t, j + 2, hj, h => by
    have := pr_drop t j (by omega) (by simp at h ⊢; omega)
    simpa using this
  | [a], j + 2, _, h => by simp at h
  | [], j + 2, _, h => by simp at h
  | es, 1, hj, _ => by omega
/-- What was read, as digits. -/
def Rel (ds : List Int) (h : Int) (xs : List Int) : Prop := -1 ≤ h ∧ h ≤ 15 ∧ ∃ es, es.length % 2 = 0 ∧ xs = pr es ∧ ds = es ++ (if h < 0 then [] else [h])
theorem Rel.nil : Rel [] (-1) [] := ⟨by omega, by omega, [], rfl, rfl, rfl⟩
theorem Rel.take {ds : List Int} {h : Int} {xs : List Int} (r : Rel ds h xs) {d : Int} (h0 : 0 ≤ d) (h1 : d ≤ 15) : Rel (ds ++ [d]) (takeS (h, xs) d).1 (takeS (h, xs) d).2 := by
  obtain ⟨r1, r2, es, r3, rfl, rfl⟩ := r
  unfold takeS
  by_cases hn : h < 0
  · rw [if_pos hn, if_pos hn]
    exact ⟨by simp only; omega, h1, es, r3, rfl, by rw [List.append_nil, if_neg (by simp only; omega)]⟩
  · rw [if_neg hn, if_neg hn]
    refine ⟨by simp only; omega, by simp only; omega, es ++ [h, d], by simp; omega, ?_, ?_⟩
    · rw [pr_snoc h d es r3]
    · rw [if_pos (by simp only; omega)]; simp
theorem Rel.told {ds : List Int} {h : Int} {xs : List Int} (r : Rel ds h xs) : (ds.length % 2 = 1 → toldS h xs = pr (ds ++ [0])) ∧ (ds.length % 2 = 0 → toldS h xs = pr ds) := by
  obtain ⟨r1, r2, es, r3, rfl, rfl⟩ := r
  unfold toldS
  by_cases hn : h < 0
  · rw [if_pos hn, if_neg (by omega), List.append_nil]
    exact ⟨fun h => by omega, fun _ => rfl⟩
  · rw [if_neg hn, if_pos (by omega)]
    refine ⟨fun _ => ?_, fun h => ?_⟩
    · rw [List.append_assoc]
      show _ = pr (es ++ [h, 0])
      rw [pr_snoc h 0 es r3, Int.add_zero]
    · rw [List.length_append, List.length_singleton] at h; omega
theorem l2_ev (D : List Int) (hD : D.length ≤ 6000) (hr : ∀ x ∈ D, 0 ≤ x ∧ x ≤ 15) : ∀ (d j : Nat) (out : List Int), D.length ≤ j + d → j % 2 = 0 → out.length ≤ j → j ≤ 7000 →
    Ev (fun k => binderyref06_Decode.l2 k D out j) (strOfNums (out ++ pr (D.drop j)), 0) := by
  intro d
  induction d using Nat.strongRecOn with
  | ind d ih =>
    intro j out hd hj ho hj7
    by_cases hlt : j + 1 < D.length
    · have g1 := hr (D.getD j 0) (by rw [List.getD_eq_getElem?_getD, List.getElem?_eq_getElem (show j < D.length by omega)]; exact List.getElem_mem _)
      have g2 := hr (D.getD (j + 1) 0) (by rw [List.getD_eq_getElem?_getD, List.getElem?_eq_getElem hlt]; exact List.getElem_mem _)
      obtain ⟨K, h⟩ := ih (d - 2) (by omega) (j + 2) (out ++ [16 * D.getD j 0 + D.getD (j + 1) 0]) (by omega) (by omega) (by rw [List.length_append, List.length_singleton]; omega) (by omega)
      refine ⟨K + 1, fun k hk => ?_⟩
      obtain ⟨k, rfl⟩ : ∃ m, k = m + 1 := ⟨k - 1, by omega⟩
      have h := h k (by omega)
      dsimp only at h
      simp only [binderyref06_Decode.l2]
      have e1 : (j : Int) + 1 = ((j + 1 : Nat) : Int) := by omega
      have e2 : (j : Int) + 2 = ((j + 2 : Nat) : Int) := by omega
      have e3 : ∀ n : Nat, rd D (n : Int) = D.getD n 0 := fun n => by unfold rd; rw [Int.toNat_natCast]
      rw [e1, e2, w64 (x := ((j + 1 : Nat) : Int)) (by omega) (by omega), if_pos (by omega), if_pos (by omega), if_pos (by omega), if_pos (by omega), if_pos (by omega), e3, e3, w64 (x := 16 * D.getD j 0) (by omega) (by omega), w64 (x := ((j + 2 : Nat) : Int)) (by omega) (by omega),
        w64 (by omega) (by omega), Int.emod_eq_of_lt (by omega) (by omega), h, pr_drop D j hj hlt]
      simp
    · refine ⟨1, fun k hk => ?_⟩
      obtain ⟨k, rfl⟩ : ∃ m, k = m + 1 := ⟨k - 1, by omega⟩
      simp only [binderyref06_Decode.l2]
      rw [w64 (by omega) (by omega), if_neg (by omega)]
      have hn : pr (D.drop j) = [] := by
        have hl : (D.drop j).length ≤ 1 := by rw [List.length_drop]; omega
        match D.drop j, hl with
        | [], _ => rfl
        | [_], _ => rfl
        | _ :: _ :: _, h => simp at h
      rw [hn, List.append_nil]

theorem kind_all : ∀ c : Fin 256, binderyref01_Kind.f 20 ((c.val : Nat) : Int) = some (kF ((c.val : Nat) : Int)) := by decide +kernel
theorem hex_all : ∀ c : Fin 256, binderyref01_Hex.f 20 ((c.val : Nat) : Int) = some (hxF ((c.val : Nat) : Int)) := by decide +kernel
theorem kref (s : ByteArray) (i : Int) : ∀ k, 20 ≤ k → binderyref01_Kind.f k (bt s i) = some (kF (bt s i)) := by
  have h := bt_range s i
  obtain ⟨m, hm⟩ := Int.eq_ofNat_of_zero_le h.1
  have h0 := kind_all ⟨m, by omega⟩
  rw [hm]
  have h1 : ∀ d, binderyref01_Kind.f (20 + d) (m : Int) = some (kF (m : Int)) := by
    intro d
    induction d with
    | zero => exact h0
    | succ d ih => exact binderyref01_Kind.mono _ _ _ ih
  intro k hk
  obtain ⟨d, rfl⟩ : ∃ d, k = 20 + d := ⟨k - 20, by omega⟩
  exact h1 d
theorem href (s : ByteArray) (i : Int) : ∀ k, 20 ≤ k → binderyref01_Hex.f k (bt s i) = some (hxF (bt s i)) := by
  have h := bt_range s i
  obtain ⟨m, hm⟩ := Int.eq_ofNat_of_zero_le h.1
  have h0 := hex_all ⟨m, by omega⟩
  rw [hm]
  have h1 : ∀ d, binderyref01_Hex.f (20 + d) (m : Int) = some (hxF (m : Int)) := by
    intro d
    induction d with
    | zero => exact h0
    | succ d ih => exact binderyref01_Hex.mono _ _ _ ih
  intro k hk
  obtain ⟨d, rfl⟩ : ∃ d, k = 20 + d := ⟨k - 20, by omega⟩
  exact h1 d
theorem ev20 {α : Type} {g f : Nat → Option α} {r : α} (h : Ev f r) (hs : ∀ k, 20 ≤ k → g (k + 1) = f k) : Ev g r := by
  obtain ⟨K, h⟩ := h
  exact ⟨K + 21, fun k hk => by
    obtain ⟨k, rfl⟩ : ∃ m, k = m + 1 := ⟨k - 1, by omega⟩
    rw [hs k (by omega)]
    exact h k (by omega)⟩
theorem ev1 {α : Type} {g : Nat → Option α} {r : α} (hs : ∀ k, 20 ≤ k → g (k + 1) = some r) : Ev g r := ⟨21, fun k hk => by
  obtain ⟨k, rfl⟩ : ∃ m, k = m + 1 := ⟨k - 1, by omega⟩
  exact hs k (by omega)⟩
theorem l1_ev (s : ByteArray) (hs : s.size ≤ 5000) (ds : List Int) (hl : ds.length ≤ 5000) (hr : ∀ x ∈ ds, 0 ≤ x ∧ x ≤ 15) (h : Int) (xs : List Int) (r : Rel ds h xs) : ∀ (d i : Nat), i + d = s.size →
    Ev (fun k => binderyref06_Decode.l1 k s ds i) (if whiteB ((bytesOf s).drop i) = true then (strOfNums (toldS h xs), 0) else (⟨#[]⟩, 4)) := by
  intro d
  induction d with
  | zero =>
    intro i hd
    rw [List.drop_eq_nil_of_le (by rw [bytesOf_length]; omega), if_pos (show whiteB [] = true from rfl)]
    obtain ⟨t1, t2⟩ := r.told
    by_cases ho : ds.length % 2 = 1
    · rw [t1 ho]
      have e := l2_ev (ds ++ [0]) (by rw [List.length_append, List.length_singleton]; omega) (fun x hx => by
        rcases List.mem_append.1 hx with h | h
        · exact hr x h
        · rw [List.mem_singleton.1 h]; omega) (ds ++ [0]).length 0 [] (by omega) rfl (Nat.le_refl _) (by omega)
      rw [List.nil_append, List.drop_zero] at e
      have e2 : Ev (fun k => binderyref06_Decode.j3 k (ds ++ [0])) (strOfNums (pr (ds ++ [0])), 0) := ev20 e (fun k _ => by simp only [binderyref06_Decode.j3]; rfl)
      refine ev20 e2 (fun k _ => ?_)
      simp only [binderyref06_Decode.l1]
      rw [if_neg (by omega), if_pos (by omega), if_pos (by omega)]
    · rw [t2 (by omega)]
      have e := l2_ev ds (by omega) hr ds.length 0 [] (by omega) rfl (Nat.le_refl _) (by omega)
      rw [List.nil_append, List.drop_zero] at e
      have e2 : Ev (fun k => binderyref06_Decode.j3 k ds) (strOfNums (pr ds), 0) := ev20 e (fun k _ => by simp only [binderyref06_Decode.j3]; rfl)
      refine ev20 e2 (fun k _ => ?_)
      simp only [binderyref06_Decode.l1]
      rw [if_neg (by omega), if_neg (by omega)]
  | succ d ih =>
    intro i hd
    have ew : (i : Int) + 1 = ((i + 1 : Nat) : Int) := by omega
    rw [drop_bytes s i (by omega)]
    unfold whiteB
    rw [List.all_cons]
    by_cases hk : kF (bt s (i : Int)) = 0
    · rw [hk]
      refine ev20 (ih (i + 1) (by omega)) (fun k hk2 => ?_)
      simp only [binderyref06_Decode.l1]
      rw [if_pos (by omega), if_pos (by omega), kref s i k hk2, Option.bind_some, if_pos hk, w64 (by omega) (by omega), ew]
    · rw [beq_eq_false_iff_ne.2 hk]
      refine ev1 (fun k hk2 => ?_)
      simp only [binderyref06_Decode.l1]
      rw [if_pos (by omega), if_pos (by omega), kref s i k hk2, Option.bind_some, if_neg hk]
      rfl
theorem l0_ev (s : ByteArray) (hs : s.size ≤ 5000) : ∀ (d i : Nat) (ds : List Int) (h : Int) (xs : List Int), i + d = s.size → ds.length ≤ i → (∀ x ∈ ds, 0 ≤ x ∧ x ≤ 15) → Rel ds h xs →
    Ev (fun k => binderyref06_Decode.l0 k s ds (-1) i) (decB ((bytesOf s).drop i) h xs) := by
  intro d
  induction d with
  | zero =>
    intro i ds h xs hd hl hr r
    rw [List.drop_eq_nil_of_le (by rw [bytesOf_length]; omega), decB]
    refine ev20 (f := fun k => binderyref06_Decode.j1 k s ds (-1) i false) (ev1 (fun k _ => ?_)) (fun k _ => ?_)
    · simp only [binderyref06_Decode.j1]
      rw [if_neg (by decide), if_pos (by omega)]
    · simp only [binderyref06_Decode.l0]
      rw [if_neg (by omega)]
  | succ d ih =>
    intro i ds h xs hd hl hr r
    have ew : (i : Int) + 1 = ((i + 1 : Nat) : Int) := by omega
    rw [drop_bytes s i (by omega), decB]
    refine ev20 (f := fun k => binderyref06_Decode.j1 k s ds (-1) i true) ?_ (fun k _ => by simp only [binderyref06_Decode.l0]; rw [if_pos (by omega), decide_eq_true (by omega)])
    by_cases h62 : bt s (i : Int) = 62
    · rw [if_pos h62]
      have e := l1_ev s hs ds (by omega) hr h xs r d (i + 1) (by omega)
      have e2 : Ev (fun k => binderyref06_Decode.j1 k s ds i ((i + 1 : Nat) : Int) false) (if whiteB ((bytesOf s).drop (i + 1)) = true then (strOfNums (toldS h xs), 0) else (⟨#[]⟩, 4)) := ev20 e (fun k _ => by
        simp only [binderyref06_Decode.j1]
        rw [if_neg (by decide), if_neg (by omega), w64 (by omega) (by omega), ew])
      have e3 : Ev (fun k => binderyref06_Decode.l0 k s ds i ((i + 1 : Nat) : Int)) (if whiteB ((bytesOf s).drop (i + 1)) = true then (strOfNums (toldS h xs), 0) else (⟨#[]⟩, 4)) := ev20 e2 (fun k _ => by
        simp only [binderyref06_Decode.l0]
        split
        · rw [decide_eq_false (by omega)]
        · rfl)
      refine ev20 e3 (fun k hk2 => ?_)
      simp only [binderyref06_Decode.j1]
      rw [if_pos trivial, if_pos (by omega), if_pos (by omega), href s i k hk2, Option.bind_some, if_pos h62, w64 (by omega) (by omega), ew]
    · rw [if_neg h62]
      have hx := hxF_range (bt s (i : Int))
      by_cases hp : 0 ≤ hxF (bt s (i : Int))
      · rw [if_pos hp]
        have e := ih (i + 1) (ds ++ [hxF (bt s (i : Int))]) _ _ (by omega) (by rw [List.length_append, List.length_singleton]; omega) (fun x hx2 => by
          rcases List.mem_append.1 hx2 with h | h
          · exact hr x h
          · rw [List.mem_singleton.1 h]; omega) (r.take hp hx.2)
        refine ev20 e (fun k hk2 => ?_)
        simp only [binderyref06_Decode.j1]
        rw [if_pos trivial, if_pos (by omega), if_pos (by omega), href s i k hk2, Option.bind_some, if_neg h62, if_pos hp, if_pos (by omega), w64 (by omega) (by omega), ew]
      · rw [if_neg hp]
        by_cases hk : kF (bt s (i : Int)) = 0
        · rw [if_pos hk]
          refine ev20 (ih (i + 1) ds h xs (by omega) (by omega) hr r) (fun k hk2 => ?_)
          simp only [binderyref06_Decode.j1]
          rw [if_pos trivial, if_pos (by omega), if_pos (by omega), href s i k hk2, Option.bind_some, if_neg h62, if_neg (by omega), kref s i k hk2, Option.bind_some, if_pos hk, w64 (by omega) (by omega), ew]
        · rw [if_neg hk]
          refine ev1 (fun k hk2 => ?_)
          simp only [binderyref06_Decode.j1]
          rw [if_pos trivial, if_pos (by omega), if_pos (by omega), href s i k hk2, Option.bind_some, if_neg h62, if_neg (by omega), kref s i k hk2, Option.bind_some, if_neg hk]
theorem dec_ev (s : ByteArray) (hs : s.size ≤ 5000) : Ev (fun k => binderyref06_Decode.f k s) (decB (bytesOf s) (-1) []) := by
  have h := l0_ev s hs s.size 0 [] (-1) [] (by omega) (Nat.le_refl _) (by simp) Rel.nil
  rw [List.drop_zero] at h
  exact h

/-! Back again, and with white bytes in it. -/
theorem decB_enc (cs : List Int) (h : ∀ c ∈ cs, 0 ≤ c ∧ c < 256) : ∀ xs, decB (hexL cs ++ [62]) (-1) xs = (strOfNums (xs ++ cs), 0) := by
  have hd : ∀ n : Int, 0 ≤ n → n ≤ 15 → dgF n ≠ 62 ∧ hxF (dgF n) = n := fun n h0 h1 => by
    unfold dgF hxF
    by_cases hn : n < 10
    · rw [if_pos hn, if_pos (by omega)]; omega
    · rw [if_neg hn, if_neg (by omega), if_pos (by omega)]; omega
  induction cs with
  | nil =>
    intro xs
    show decB [62] (-1) xs = _
    rw [decB, if_pos rfl, if_pos (show whiteB [] = true from rfl), toldS, if_neg (by omega), List.append_nil]
  | cons c cs ih =>
    intro xs
    have hc := h c (List.mem_cons_self ..)
    obtain ⟨a1, a2⟩ := hd (c / 16) (by omega) (by omega)
    obtain ⟨b1, b2⟩ := hd (c % 16) (by omega) (by omega)
    show decB (dgF (c / 16) :: dgF (c % 16) :: (hexL cs ++ [62])) (-1) xs = _
    rw [decB, if_neg a1, a2, if_pos (by omega)]
    have e1 : takeS (-1, xs) (c / 16) = (c / 16, xs) := by unfold takeS; rw [if_pos (by simp only; omega)]
    rw [e1, decB, if_neg b1, b2, if_pos (by omega)]
    have e2 : takeS (c / 16, xs) (c % 16) = (-1, xs ++ [c]) := by unfold takeS; rw [if_neg (by simp only; omega)]; simp only; congr 3; omega
    simp only
    rw [e2]
    simp only
    rw [ih (fun c hc => h c (List.mem_cons_of_mem _ hc)), List.append_assoc]
    rfl
theorem decB_white (w : Int) (b : List Int) (hw : kF w = 0) (hw2 : hxF w < 0) (hw3 : w ≠ 62) : ∀ (a : List Int) (h : Int) (xs : List Int), decB (a ++ w :: b) h xs = decB (a ++ b) h xs
  | [], h, xs => by
    rw [List.nil_append, List.nil_append, decB, if_neg hw3, if_neg (by omega), if_pos hw]
  | c :: a, h, xs => by
    rw [List.cons_append, List.cons_append, decB, decB]
    have e : whiteB (a ++ w :: b) = whiteB (a ++ b) := by unfold whiteB; simp [hw]
    rw [e, decB_white w b hw hw2 hw3 a, decB_white w b hw hw2 hw3 a]
theorem dec_f (s : ByteArray) (hs : s.size ≤ 1000000) : hexa_Decode.f s = some (decB (bytesOf s) (-1) []) := by unfold hexa_Decode.f; rw [if_pos hs]
theorem enc_f (s : ByteArray) (hs : s.size ≤ 1000000) : hexa_Encode.f s = some (strOfNums (hexL (bytesOf s) ++ [62])) := by unfold hexa_Encode.f; rw [if_pos hs]
end Go.Proofs.Ythghjdajohcedaa.Lem06
