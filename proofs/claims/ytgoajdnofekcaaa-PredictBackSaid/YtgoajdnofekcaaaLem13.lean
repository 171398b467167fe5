/- What the functions of layer 13, and the document's, tell: plain facts, without Go. -/
import Derived.Test.YtgoajdnofekcaaaP13x2
import Derived.Test.YtgoajdnofekcaaaNum
namespace Go.Proofs.Ytgoajdnofekcaaa.Lem13
open Go.RowKit Go.Proofs.Ytgoajdnofekcaaa.P13 Go.Proofs.YtgoajdnofekcaaaW.PrintWords Go.Proofs.YtgoajdnofekcaaaW.PrintLast Go.Proofs.Ytgoajdnofekcaaa.Hand Go.Proofs.Ytgoajdnofekcaaa.Num

theorem rows_ev : Ev binderylaw13_rows.f true := Ev.of binderylaw13_rows.mono (k := 40) (by decide +kernel)
theorem ev_step {α : Type} {g f : Nat → Option α} {r : α} (h : Ev f r) (hs : ∀ k, g (k + 1) = f k) : Ev g r := by
  obtain ⟨K, h⟩ := h
  exact ⟨K + 1, fun k hk => by
    obtain ⟨k, rfl⟩ : ∃ m, k = m + 1 := ⟨k - 1, by omega⟩
    rw [hs]
    exact h k (by omega)⟩
theorem ev_step2 {α : Type} {g f : Nat → Option α} {r : α} (h : Ev f r) (hs : ∀ k, g (k + 2) = f (k + 1)) : Ev g r := by
  obtain ⟨K, h⟩ := h
  exact ⟨K + 2, fun k hk => by
    obtain ⟨k, rfl⟩ : ∃ m, k = m + 2 := ⟨k - 2, by omega⟩
    rw [hs]
    exact h _ (by omega)⟩
theorem ev_one {α : Type} {g : Nat → Option α} {r : α} (hs : ∀ k, g (k + 1) = some r) : Ev g r :=
  ⟨1, fun k hk => by
    obtain ⟨k, rfl⟩ : ∃ m, k = m + 1 := ⟨k - 1, by omega⟩
    exact hs k⟩
theorem ext_ext (S : ByteArray) (p n : Nat) : (S.extract p S.size).extract n (S.extract p S.size).size = S.extract (p + n) S.size := by
  rw [ByteArray.extract_extract, ByteArray.size_extract]
  by_cases h : p ≤ S.size
  · rw [show min (p + (min S.size S.size - p)) S.size = S.size by omega]
  · apply bytes_ext
    rw [bytesOf_extract, bytesOf_extract, List.drop_eq_nil_of_le, List.drop_eq_nil_of_le]
    · rw [List.length_take, bytesOf_length]; omega
    · rw [List.length_take, bytesOf_length]; omega

/-! ### Encode -/
/-- The bytes told before byte j of a row that begins at p. -/
def outJ (S : ByteArray) (n p j : Nat) : List Int := if j = 0 then pencTo S n p ++ [2] else pencTo S n (p + j)
theorem outJ_succ (S : ByteArray) (n p j : Nat) (hp : p % n = 0) (hj : j < n) : outJ S n p (j + 1) = outJ S n p j ++ [(bt S ((p + j : Nat) : Int) - aboveB S n (p + j)) % 256] := by
  unfold outJ
  rw [if_neg (by omega), ← Nat.add_assoc, pencTo]
  by_cases h0 : j = 0
  · subst h0
    rw [if_pos rfl, Nat.add_zero, if_pos hp]
  · rw [if_neg h0, if_neg]
    rw [Nat.add_mod, hp, Nat.zero_add, Nat.mod_mod, Nat.mod_eq_of_lt hj]
    exact h0
theorem outJ_length (S : ByteArray) (n p j : Nat) : (outJ S n p j).length ≤ 2 * (p + j) + 1 := by
  unfold outJ
  split
  · have := pencTo_length S n p
    rw [List.length_append, List.length_singleton]; omega
  · have := pencTo_length S n (p + j)
    omega
theorem rd_set (l : List Int) (j : Nat) (x : Int) (c : Nat) (hj : j < l.length) : rd (l.set j x) (c : Int) = if c = j then x else rd l (c : Int) := by
  unfold rd
  rw [Int.toNat_natCast, List.getD_eq_getElem?_getD, List.getD_eq_getElem?_getD, List.getElem?_set]
  by_cases h : j = c
  · subst h; rw [if_pos rfl, if_pos hj, if_pos rfl]; rfl
  · rw [if_neg h, if_neg (by omega)]
theorem enc_row (S : ByteArray) (n p : Nat) (r : ByteArray × Int) (hn : 1 ≤ n ∧ n ≤ 256) (hS : S.size ≤ 5000) (hp : p % n = 0) (hpn : p + n ≤ S.size)
    (hnext : ∀ ab : List Int, ab.length = n → (∀ c : Nat, c < n → rd ab (c : Int) = bt S ((p + c : Nat) : Int)) → Ev (fun k => predict_Encode.l0 k (S.extract (p + n) S.size) n (pencTo S n (p + n)) ab) r) :
    ∀ (d j : Nat) (ab : List Int), j + d = n → ab.length = n → (∀ c : Nat, c < n → rd ab (c : Int) = if c < j then bt S ((p + c : Nat) : Int) else aboveB S n (p + c)) →
      Ev (fun k => predict_Encode.l1 k (S.extract p S.size) n (outJ S n p j) ab n j) r := by
  intro d
  have hsz : (S.extract p S.size).size = S.size - p := by rw [ByteArray.size_extract]; omega
  induction d with
  | zero =>
    intro j ab hj hl hc
    have ej : j = n := by omega
    rw [ej] at hc ⊢
    have e := hnext ab hl (fun c hcn => by rw [hc c hcn, if_pos hcn])
    refine ev_step e (fun k => ?_)
    simp only [predict_Encode.l1]
    rw [if_neg (by omega), if_pos (by omega), if_pos (by omega), Int.toNat_natCast, ext_ext]
    unfold outJ
    rw [if_neg (by omega)]
  | succ d ih =>
    intro j ab hj hl hc
    have e := ih (j + 1) (ab.set j (bt S ((p + j : Nat) : Int))) (by omega) (by rw [List.length_set, hl]) (by
      intro c hcn
      rw [rd_set _ _ _ _ (by omega)]
      by_cases h : c = j
      · subst h; rw [if_pos rfl, if_pos (by omega)]
      · rw [if_neg h, hc c hcn]
        by_cases h2 : c < j
        · rw [if_pos h2, if_pos (by omega)]
        · rw [if_neg h2, if_neg (by omega)])
    refine ev_step e (fun k => ?_)
    have hol := outJ_length S n p j
    have hb : bt (S.extract p S.size) (j : Int) = bt S ((p + j : Nat) : Int) := bt_extract S p S.size j (by omega) (by omega)
    have hr : rd ab (j : Int) = aboveB S n (p + j) := by rw [hc j (by omega), if_neg (by omega)]
    simp only [predict_Encode.l1]
    rw [if_pos (by omega), if_pos (by omega), if_pos (by omega), if_pos (by omega), if_pos (by omega), hb, hr, ← outJ_succ S n p j hp (by omega), Int.toNat_natCast, w64 (by omega) (by omega)]
    rfl
theorem enc_rows (S : ByteArray) (n b : Nat) (hn : 1 ≤ n ∧ n ≤ 256) (hS : S.size ≤ 5000) (hb : S.size = n * b) :
    ∀ (m q : Nat) (ab : List Int), q ≤ b → b - q ≤ m → ab.length = n → (∀ c : Nat, c < n → rd ab (c : Int) = aboveB S n (n * q + c)) →
      Ev (fun k => predict_Encode.l0 k (S.extract (n * q) S.size) n (pencTo S n (n * q)) ab) (strOfNums (pencTo S n S.size), 0) := by
  intro m
  induction m with
  | zero =>
    intro q ab hq hm hl hc
    have eq : q = b := by omega
    rw [eq, ← hb]
    refine ev_one (fun k => ?_)
    simp only [predict_Encode.l0]
    rw [if_pos ((toList_bytes _).2 (by rw [ByteArray.size_extract]; omega))]
  | succ m ih =>
    intro q ab hq hm hl hc
    by_cases eq : q = b
    · rw [eq, ← hb]
      refine ev_one (fun k => ?_)
      simp only [predict_Encode.l0]
      rw [if_pos ((toList_bytes _).2 (by rw [ByteArray.size_extract]; omega))]
    · have hle : n * (q + 1) ≤ n * b := Nat.mul_le_mul_left n (by omega)
      have hm1 : n * (q + 1) = n * q + n := Nat.mul_succ n q
      have hpl := pencTo_length S n (n * q)
      have e := enc_row S n (n * q) (strOfNums (pencTo S n S.size), 0) hn hS (Nat.mul_mod_right n q) (by omega) (fun ab' hl' hc' => by
        have := ih (q + 1) ab' (by omega) (by omega) hl' (fun c hcn => by
          rw [hc' c hcn, aboveB, if_pos (by omega), show n * (q + 1) + c - n = n * q + c by omega])
        rw [hm1] at this
        exact this) n 0 ab (by omega) hl (fun c hcn => by rw [if_neg (by omega), hc c hcn])
      refine ev_step e (fun k => ?_)
      simp only [predict_Encode.l0]
      rw [if_neg (fun h => by have := (toList_bytes _).1 h; rw [ByteArray.size_extract] at this; omega), if_pos (by omega)]
      rfl
theorem enc_good (s : ByteArray) (n : Nat) (hn : 1 ≤ n ∧ n ≤ 256) (hs : s.size ≤ 5000) (hd : s.size % n = 0) : Ev (fun k => predict_Encode.f k s n) (strOfNums (pencTo s n s.size), 0) := by
  obtain ⟨b, hb⟩ := Nat.dvd_of_mod_eq_zero hd
  have e := enc_rows s n b hn hs hb b 0 (List.replicate n 0) (by omega) (by omega) (by rw [List.length_replicate]) (fun c hc => by
    rw [Nat.mul_zero, Nat.zero_add, aboveB, if_neg (by omega)]
    unfold rd
    rw [Int.toNat_natCast, List.getD_eq_getElem?_getD, List.getElem?_replicate, if_pos hc]
    rfl)
  obtain ⟨K, h⟩ := e
  refine ⟨K, fun k hk => ?_⟩
  have hk1 := h k hk
  dsimp only at hk1 ⊢
  rw [Nat.mul_zero, ByteArray.extract_zero_size] at hk1
  have hmod : ((s.size : Nat) : Int) % (n : Int) = 0 := by omega
  unfold predict_Encode.f predict_may.f
  rw [if_pos (by omega), Option.bind_some, if_pos (by rw [decide_eq_true]; omega), if_neg (by omega), if_pos hmod, if_pos (by omega), if_pos (by omega), Int.toNat_natCast]
  exact hk1
theorem enc_ev (s : ByteArray) (a : Int) (hs : s.size ≤ 5000) : ∃ r, binderyref13_Encode.f s a = some r ∧ Ev (fun k => predict_Encode.f k s a) r := by
  unfold binderyref13_Encode.f
  rw [if_pos (by omega)]
  by_cases h1 : 1 ≤ a ∧ a ≤ 256
  · rw [if_pos h1]
    by_cases h2 : (s.size : Int) % a = 0
    · rw [if_pos h2]
      obtain ⟨n, rfl⟩ := Int.eq_ofNat_of_zero_le (show 0 ≤ a by omega)
      exact ⟨_, rfl, enc_good s n (by omega) hs (by omega)⟩
    · rw [if_neg h2]
      refine ⟨_, rfl, 0, fun k _ => ?_⟩
      dsimp only
      unfold predict_Encode.f predict_may.f
      rw [if_pos (by omega), Option.bind_some, if_pos (by rw [decide_eq_true]; omega), if_neg (by omega), if_neg h2]
  · rw [if_neg h1]
    refine ⟨_, rfl, 0, fun k _ => ?_⟩
    dsimp only
    unfold predict_Encode.f predict_may.f
    by_cases h3 : a ≥ 1
    · rw [if_pos h3, Option.bind_some, if_neg (by rw [decide_eq_true_eq]; omega)]
    · rw [if_neg h3, Option.bind_some, if_neg (by decide)]

/-! ### Decode -/
theorem away_eq (x y : Int) (hx : -1000 ≤ x ∧ x ≤ 1000) (hy : -1000 ≤ y ∧ y ≤ 1000) : binderyref13_away.f x y = some (dist x y) := by
  unfold binderyref13_away.f dist
  by_cases h : x < y
  · rw [if_pos h, if_pos (by omega), w64 (by omega) (by omega)]
  · rw [if_neg h, w64 (by omega) (by omega)]
    split
    · omega
    · rfl
theorem guess_ref (K a b c : Int) (hK : 0 ≤ K ∧ K ≤ 4) (ha : 0 ≤ a ∧ a ≤ 255) (hb : 0 ≤ b ∧ b ≤ 255) (hc : 0 ≤ c ∧ c ≤ 255) :
    ∃ g, guessF K a b c = some g ∧ (0 ≤ g ∧ g ≤ 255) ∧ ∀ k, binderyref13_guess.f (k + 1) K a b c = some g := by
  rcases (show K = 0 ∨ K = 1 ∨ K = 2 ∨ K = 3 ∨ K = 4 by omega) with rfl | rfl | rfl | rfl | rfl
  · exact ⟨0, rfl, by omega, fun k => by unfold binderyref13_guess.f; rw [if_neg (by decide), if_neg (by decide), if_neg (by decide), if_neg (by decide)]⟩
  · exact ⟨a, rfl, ha, fun k => by unfold binderyref13_guess.f; rw [if_pos rfl]⟩
  · exact ⟨b, rfl, hb, fun k => by unfold binderyref13_guess.f; rw [if_neg (by decide), if_pos rfl]⟩
  · exact ⟨(a + b) / 2, rfl, by omega, fun k => by
      unfold binderyref13_guess.f
      rw [if_neg (by decide), if_neg (by decide), if_pos rfl]
      simp (disch := omega) only [w64, td]⟩
  · obtain ⟨p, hp⟩ : ∃ p, p = a + b - c := ⟨_, rfl⟩
    refine ⟨nearF a b c, rfl, ?_, fun k => ?_⟩
    · unfold nearF; dsimp only; split <;> split <;> omega
    · unfold binderyref13_guess.f
      rw [if_neg (by decide), if_neg (by decide), if_neg (by decide), if_pos rfl, w64 (x := a + b) (by omega) (by omega), w64 (x := a + b - c) (by omega) (by omega), ← hp,
        away_eq p a (by omega) (by omega), away_eq p b (by omega) (by omega), Option.bind_some, Option.bind_some]
      have en : nearF a b c = if dist p c < dist p (if dist p b < dist p a then b else a) then c else (if dist p b < dist p a then b else a) := by rw [hp]; rfl
      rw [en]
      by_cases h1 : dist p a ≤ dist p b
      · rw [if_pos h1, away_eq p c (by omega) (by omega), Option.bind_some, Option.bind_some, binderyref13_guess.j0, if_neg (show ¬ dist p b < dist p a by omega)]
        by_cases h2 : dist p a ≤ dist p c
        · rw [if_pos (decide_eq_true h2), if_neg (by omega)]
        · rw [if_neg (by rw [decide_eq_true_eq]; exact h2), away_eq p b (by omega) (by omega), away_eq p c (by omega) (by omega), Option.bind_some, Option.bind_some, if_neg (by omega), if_pos (by omega)]
      · rw [if_neg h1, binderyref13_guess.j0, if_neg (by decide), away_eq p b (by omega) (by omega), away_eq p c (by omega) (by omega), Option.bind_some, Option.bind_some, if_pos (show dist p b < dist p a by omega)]
        by_cases h3 : dist p b ≤ dist p c
        · rw [if_pos h3, if_neg (by omega)]
        · rw [if_neg h3, if_pos (by omega)]
theorem at_in (l : List Int) (n row : Int) (c q : Nat) (hq : row * n = (q : Int)) (hr : 0 ≤ row) (hl : q + c < l.length) (hb : l.length ≤ 1000000) (hx : ∀ x ∈ l, 0 ≤ x ∧ x < 256) :
    binderyref13_at.f l n row c = some (l.getD (q + c) 0) := by
  unfold binderyref13_at.f
  have hg := getD_range hx (q + c)
  have e : ((q : Int) + (c : Int)) = ((q + c : Nat) : Int) := by omega
  rw [if_neg (by omega), if_neg (by omega), hq, w64 (x := (q : Int)) (by omega) (by omega), w64 (x := (q : Int) + (c : Int)) (by omega) (by omega), if_pos (by omega), if_pos (by omega), e]
  unfold rd
  rw [Int.toNat_natCast, w64 (by omega) (by omega)]
theorem at_out (l : List Int) (n row c : Int) (h : row < 0 ∨ c < 0) : binderyref13_at.f l n row c = some 0 := by
  unfold binderyref13_at.f
  by_cases h1 : row < 0
  · rw [if_pos h1]
  · rw [if_neg h1, if_pos (by omega)]
theorem getD_left (l l' : List Int) (i : Nat) (h : i < l.length) : (l ++ l').getD i 0 = l.getD i 0 := by
  rw [List.getD_eq_getElem?_getD, List.getD_eq_getElem?_getD, List.getElem?_append_left h]
theorem getD_right (l l' : List Int) (i : Nat) : (l ++ l').getD (l.length + i) 0 = l'.getD i 0 := by
  rw [List.getD_eq_getElem?_getD, List.getD_eq_getElem?_getD, List.getElem?_append_right (by omega), Nat.add_sub_cancel_left]
theorem bt_range (s : ByteArray) (i : Int) : 0 ≤ bt s i ∧ bt s i ≤ 255 := by
  unfold bt
  split
  · rename_i h; have := (s[i.toNat]).toNat_lt; omega
  · omega
theorem dec_row (S : ByteArray) (n row q u : Nat) (out ab : List Int) (t : ByteArray) (hn : 1 ≤ n ∧ n ≤ 256) (hS : S.size ≤ 5000) (hq : q = n * row) (hu : u = (n + 1) * row) (hus : u + (n + 1) ≤ S.size)
    (hout : out.length = q ∧ ∀ x ∈ out, 0 ≤ x ∧ x < 256) (habr : ∀ x ∈ ab, 0 ≤ x ∧ x < 256) (hab : ∀ c, c < n → ab.getD c 0 = if row = 0 then 0 else out.getD (q - n + c) 0)
    (ht : ∀ i : Nat, i < n → bt t ((i + 1 : Nat) : Int) = bt S ((u + 1 + i : Nat) : Int)) (hK : bt t 0 ≤ 4) :
    ∀ (d j : Nat) (part : List Int), j + d = n → rowF t ab j = some part → ∃ full, rowF t ab n = some full ∧
      ∀ r, Ev (fun k => binderyref13_Decode.l0 k S n ((n : Int) + 1) (out ++ full) ((row : Int) + 1)) r → Ev (fun k => binderyref13_Decode.l1 k S n ((n : Int) + 1) (out ++ part) row (bt t 0) j) r := by
  intro d
  have hKr := bt_range t 0
  have hrow : row ≤ 5000 := by
    have : 1 * row ≤ (n + 1) * row := Nat.mul_le_mul_right row (by omega)
    omega
  have hqu : q ≤ u := by rw [hq, hu]; exact Nat.mul_le_mul_right row (by omega)
  have hqI : (row : Int) * (n : Int) = (q : Int) := by rw [hq, Int.natCast_mul, Int.mul_comm]
  have huI : (row : Int) * ((n : Int) + 1) = (u : Int) := by rw [hu, Int.natCast_mul, Int.mul_comm]; rfl
  induction d with
  | zero =>
    intro j part hj hp
    have ej : j = n := by omega
    rw [ej] at hp ⊢
    refine ⟨part, hp, fun r hr => ev_step hr (fun k => ?_)⟩
    simp only [binderyref13_Decode.l1]
    rw [if_neg (by omega), w64 (by omega) (by omega)]
  | succ d ih =>
    intro j part hj hp
    obtain ⟨hpl, hpr⟩ := rowF_range hp
    have hall : ∀ x ∈ out ++ part, 0 ≤ x ∧ x < 256 := fun x hx => by
      rcases List.mem_append.1 hx with h | h
      · exact hout.2 x h
      · exact hpr x h
    have hlen : (out ++ part).length = q + j := by rw [List.length_append, hout.1, hpl]
    obtain ⟨a, ha⟩ : ∃ a, a = if j = 0 then 0 else part.getD (j - 1) 0 := ⟨_, rfl⟩
    obtain ⟨b, hb⟩ : ∃ b, b = ab.getD j 0 := ⟨_, rfl⟩
    obtain ⟨c, hc⟩ : ∃ c, c = if j = 0 then 0 else ab.getD (j - 1) 0 := ⟨_, rfl⟩
    have ra : 0 ≤ a ∧ a ≤ 255 := by rw [ha]; split; omega; exact getD_range hpr _
    have rb : 0 ≤ b ∧ b ≤ 255 := by rw [hb]; exact getD_range habr _
    have rc : 0 ≤ c ∧ c ≤ 255 := by rw [hc]; split; omega; exact getD_range habr _
    obtain ⟨g, hg, rg, hgf⟩ := guess_ref (bt t 0) a b c ⟨hKr.1, hK⟩ ra rb rc
    have hp1 : rowF t ab (j + 1) = some (part ++ [(bt t ((j + 1 : Nat) : Int) + g) % 256]) := by
      rw [rowF, hp, Option.bind_some, ← ha, ← hb, ← hc, hg]; rfl
    obtain ⟨full, hf, hr⟩ := ih (j + 1) _ (by omega) hp1
    refine ⟨full, hf, fun r hE => ev_step2 (hr r hE) (fun k => ?_)⟩
    have e1 : binderyref13_at.f (out ++ part) n row ((j : Int) - 1) = some a := by
      by_cases h0 : j = 0
      · rw [at_out _ _ _ _ (by omega), ha, if_pos h0]
      · have ej : (j : Int) - 1 = ((j - 1 : Nat) : Int) := by omega
        rw [ej, at_in _ _ _ _ q hqI (by omega) (by omega) (by omega) hall, ha, if_neg h0, ← hout.1, getD_right]
    have hq1 : row ≠ 0 → ((row : Int) - 1) * (n : Int) = ((q - n : Nat) : Int) ∧ n ≤ q := fun h0 => by
      have : n * 1 ≤ n * row := Nat.mul_le_mul_left n (by omega)
      rw [Int.sub_mul, hqI]; omega
    have e2 : ∀ i : Nat, i < n → binderyref13_at.f (out ++ part) n ((row : Int) - 1) i = some (ab.getD i 0) := fun i hi => by
      by_cases h0 : row = 0
      · rw [at_out _ _ _ _ (by omega), hab i hi, if_pos h0]
      · obtain ⟨hq2, hq3⟩ := hq1 h0
        rw [at_in _ _ _ _ (q - n) hq2 (by omega) (by omega) (by omega) hall, hab i hi, if_neg h0, getD_left _ _ _ (by omega)]
    have e3 : binderyref13_at2.f (out ++ part) n row j = some c := by
      unfold binderyref13_at2.f
      rw [w64 (x := (row : Int) - 1) (by omega) (by omega), w64 (x := (j : Int) - 1) (by omega) (by omega)]
      by_cases h0 : j = 0
      · rw [at_out _ _ _ _ (by omega), hc, if_pos h0]; rfl
      · have ej : (j : Int) - 1 = ((j - 1 : Nat) : Int) := by omega
        rw [ej, e2 (j - 1) (by omega), hc, if_neg h0]; rfl
    have hbS := bt_range S ((u + 1 + j : Nat) : Int)
    have ei : (u : Int) + 1 + (j : Int) = ((u + 1 + j : Nat) : Int) := by omega
    simp only [binderyref13_Decode.l1]
    rw [if_pos (by omega), w64 (x := (j : Int) - 1) (by omega) (by omega), w64 (x := (row : Int) - 1) (by omega) (by omega), e1, Option.bind_some, e2 j (by omega), ← hb, Option.bind_some, e3, Option.bind_some, hgf, Option.bind_some,
      huI, w64 (x := (u : Int)) (by omega) (by omega), w64 (x := (u : Int) + 1) (by omega) (by omega), w64 (x := (u : Int) + 1 + (j : Int)) (by omega) (by omega), if_pos (by omega), if_pos (by omega), if_pos (by omega), ei,
      w64 (x := bt S _) (by omega) (by omega), w64 (x := bt S _ + g) (by omega) (by omega), w64 (x := (j : Int) + 1) (by omega) (by omega), ← ht j (by omega), List.append_assoc]
    rfl
theorem guess_bad (K a b c : Int) (hK : 4 < K) : guessF K a b c = none := by
  unfold guessF
  rw [if_neg (by omega), if_neg (by omega), if_neg (by omega), if_neg (by omega), if_neg (by omega)]
theorem dec_rows (S : ByteArray) (n b : Nat) (hn : 1 ≤ n ∧ n ≤ 256) (hS : S.size ≤ 5000) (hb : S.size = (n + 1) * b) :
    ∀ (m row : Nat) (ab out : List Int), row ≤ b → b - row ≤ m → (out.length = n * row ∧ ∀ x ∈ out, 0 ≤ x ∧ x < 256) → (∀ x ∈ ab, 0 ≤ x ∧ x < 256) → (∀ c, c < n → ab.getD c 0 = if row = 0 then 0 else out.getD (n * row - n + c) 0) →
      ∃ r, Ev (fun k => pdecL k (S.extract ((n + 1) * row) S.size) ab out n) r ∧ Ev (fun k => binderyref13_Decode.l0 k S n ((n : Int) + 1) out row) r := by
  intro m
  have hbS : b ≤ 5000 := by
    have : 1 * b ≤ (n + 1) * b := Nat.mul_le_mul_right b (by omega)
    omega
  have hdiv : (S.size : Int) / ((n : Int) + 1) = (b : Int) := by
    rw [hb, Int.natCast_mul, show ((n + 1 : Nat) : Int) = (n : Int) + 1 by omega]
    exact Int.mul_ediv_cancel_left _ (by omega)
  have stop : ∀ (ab out : List Int), out.length ≤ 1000000 → ∃ r, Ev (fun k => pdecL k (S.extract ((n + 1) * b) S.size) ab out n) r ∧ Ev (fun k => binderyref13_Decode.l0 k S n ((n : Int) + 1) out b) r := fun ab out ho => by
    refine ⟨(strOfNums out, 0), ev_one (fun k => ?_), ev_one (fun k => ?_)⟩
    · have hz : (S.extract ((n + 1) * b) S.size).size = 0 := by rw [ByteArray.size_extract]; omega
      simp only [pdecL]
      rw [if_pos (by omega), if_pos hz]
    · simp only [binderyref13_Decode.l0]
      rw [if_neg (by omega), hdiv, w64 (by omega) (by omega), if_neg (by omega)]
  induction m with
  | zero =>
    intro row ab out hr hm ho hx hab
    have er : row = b := by omega
    have hnb : n * b ≤ (n + 1) * b := Nat.mul_le_mul_right b (by omega)
    have hol : out.length = n * b := by rw [ho.1, er]
    rw [er]
    exact stop ab out (by omega)
  | succ m ih =>
    intro row ab out hr hm ho hx hab
    have hnb : n * row ≤ (n + 1) * row := Nat.mul_le_mul_right row (by omega)
    have hnb2 : (n + 1) * row ≤ (n + 1) * b := Nat.mul_le_mul_left _ hr
    have hol := ho.1
    by_cases er : row = b
    · rw [er]
      exact stop ab out (by omega)
    · have hle : (n + 1) * (row + 1) ≤ (n + 1) * b := Nat.mul_le_mul_left _ (by omega)
      have hm1 : (n + 1) * (row + 1) = (n + 1) * row + (n + 1) := Nat.mul_succ _ _
      obtain ⟨u, hu⟩ : ∃ u, u = (n + 1) * row := ⟨_, rfl⟩
      have huI : (row : Int) * ((n : Int) + 1) = (u : Int) := by rw [hu, Int.natCast_mul, Int.mul_comm]; rfl
      rw [← hu] at hm1 ⊢
      obtain ⟨t, ht⟩ : ∃ t, t = (S.extract u S.size).extract 0 (n + 1) := ⟨_, rfl⟩
      have hsz : (S.extract u S.size).size = S.size - u := by rw [ByteArray.size_extract]; omega
      have hbt : ∀ i : Nat, i < n + 1 → bt t (i : Int) = bt S ((u + i : Nat) : Int) := fun i hi => by
        rw [ht, bt_extract _ 0 (n + 1) i (by omega) (by omega), Nat.zero_add, bt_extract _ u S.size i (by omega) (by omega)]
      have hb0 : bt t 0 = bt S (u : Int) := hbt 0 (by omega)
      have hr0 := bt_range S (u : Int)
      by_cases hK : bt t 0 ≤ 4
      · obtain ⟨full, hf, hE⟩ := dec_row S n row (n * row) u out ab t hn hS rfl hu (by omega) ho hx hab (fun i hi => by rw [hbt (i + 1) (by omega), show u + (i + 1) = u + 1 + i by omega]) hK n 0 [] (by omega) rfl
        obtain ⟨fl, fr⟩ := rowF_range hf
        have hnr : n * (row + 1) = n * row + n := Nat.mul_succ _ _
        obtain ⟨r, h1, h2⟩ := ih (row + 1) full (out ++ full) (by omega) (by omega) ⟨by rw [List.length_append, ho.1, fl, hnr], fun x hx => by
          rcases List.mem_append.1 hx with h | h
          · exact ho.2 x h
          · exact fr x h⟩ fr (fun c hc => by rw [if_neg (by omega), hnr, show n * row + n - n + c = out.length + c by omega, getD_right])
        refine ⟨r, ev_step h1 (fun k => ?_), ev_step (hE r h2) (fun k => ?_)⟩
        · simp only [pdecL]
          rw [if_pos (by omega), if_neg (by omega), if_pos (by omega), ← ht, hf]
          simp only
          rw [ext_ext, hm1]
        · simp only [binderyref13_Decode.l0]
          rw [if_neg (by omega), hdiv, w64 (x := (b : Int)) (by omega) (by omega), if_pos (by omega), huI, w64 (x := (u : Int)) (by omega) (by omega), if_pos (by omega), if_pos (by omega), w64 (x := bt S (u : Int)) (by omega) (by omega), if_neg (by omega), ← hb0, List.append_nil]
          rfl
      · refine ⟨(⟨#[]⟩, 4), ev_one (fun k => ?_), ev_one (fun k => ?_)⟩
        · have h1 : rowF t ab 1 = none := by rw [rowF, rowF, Option.bind_some, guess_bad _ _ _ _ (by omega)]; rfl
          have hno : rowF t ab n = none := by
            have := rowF_none h1 (n - 1)
            rwa [show 1 + (n - 1) = n by omega] at this
          simp only [pdecL]
          rw [if_pos (by omega), if_neg (by omega), if_pos (by omega), ← ht, hno]
        · simp only [binderyref13_Decode.l0]
          rw [if_neg (by omega), hdiv, w64 (x := (b : Int)) (by omega) (by omega), if_pos (by omega), huI, w64 (x := (u : Int)) (by omega) (by omega), if_pos (by omega), if_pos (by omega), w64 (x := bt S (u : Int)) (by omega) (by omega), if_pos (by omega)]
theorem dec_ev (s : ByteArray) (a : Int) (hs : s.size ≤ 5000) : ∃ r, Ev (fun k => predict_Decode.f k s a) r ∧ Ev (fun k => binderyref13_Decode.f k s a) r := by
  unfold predict_Decode.f binderyref13_Decode.f
  by_cases h1 : 1 ≤ a ∧ a ≤ 256
  · have hj : (if a < 1 then (binderyref13_Decode.j0 · s a true) else (binderyref13_Decode.j0 · s a (decide (a > 256)))) = fun k => binderyref13_Decode.j0 k s a false := by
      rw [if_neg (by omega), decide_eq_false (by omega)]
    by_cases h2 : (s.size : Int) % (a + 1) = 0
    · obtain ⟨n, rfl⟩ := Int.eq_ofNat_of_zero_le (show 0 ≤ a by omega)
      obtain ⟨b, hb⟩ := Nat.dvd_of_mod_eq_zero (show s.size % (n + 1) = 0 by exact_mod_cast h2)
      obtain ⟨r, ⟨K1, e1⟩, ⟨K2, e2⟩⟩ := dec_rows s n b (by omega) hs hb b 0 (List.replicate n 0) [] (by omega) (by omega) ⟨by simp, by simp⟩ (fun x hx => by rw [List.eq_of_mem_replicate hx]; omega) (fun c hc => by
        rw [if_pos rfl, List.getD_eq_getElem?_getD, List.getElem?_replicate, if_pos hc]; rfl)
      refine ⟨r, ⟨K1, fun k hk => ?_⟩, ⟨K2 + 1, fun k hk => ?_⟩⟩
      · have := e1 k hk
        dsimp only at this ⊢
        rw [Nat.mul_zero, ByteArray.extract_zero_size] at this
        rw [if_pos (by omega), if_pos h1, if_pos h2, Int.toNat_natCast]
        exact this
      · obtain ⟨k, rfl⟩ : ∃ m, k = m + 1 := ⟨k - 1, by omega⟩
        have := e2 k (by omega)
        dsimp only at this ⊢
        rw [if_neg (by omega), decide_eq_false (by omega)]
        simp only [binderyref13_Decode.j0]
        rw [if_neg (by decide), w64 (by omega) (by omega), if_neg (by omega), if_pos h2]
        exact this
    · refine ⟨(⟨#[]⟩, 4), ⟨0, fun k _ => ?_⟩, ev_one (fun k => ?_)⟩
      · dsimp only
        rw [if_pos (by omega), if_pos h1, if_neg h2]
      · rw [if_neg (by omega), decide_eq_false (by omega)]
        simp only [binderyref13_Decode.j0]
        rw [if_neg (by decide), w64 (by omega) (by omega), if_neg (by omega), if_neg h2]
  · refine ⟨(⟨#[]⟩, 2), ⟨0, fun k _ => ?_⟩, ev_one (fun k => ?_)⟩
    · dsimp only
      rw [if_pos (by omega), if_neg h1]
    · by_cases h3 : a < 1
      · rw [if_pos h3]
        simp only [binderyref13_Decode.j0, if_true]
      · rw [if_neg h3, decide_eq_true (by omega)]
        simp only [binderyref13_Decode.j0, if_true]
end Go.Proofs.Ytgoajdnofekcaaa.Lem13
