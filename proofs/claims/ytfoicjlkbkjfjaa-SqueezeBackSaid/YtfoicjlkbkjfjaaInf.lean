/- Inflate in plain numbers: what is read, step by step; what is cut off is too short, what needs more room is too big. -/
import Derived.Test.YtfoicjlkbkjfjaaCodesR
import Derived.Test.YtfoicjlkbkjfjaaHand08w
import Derived.Handy
namespace Go.Proofs.Ytfoicjlkbkjfjaa.Hand
open Go.RowKit Go.Proofs.YtfoicjlkbkjfjaaW.PrintWords Go.Proofs.YtfoicjlkbkjfjaaW.PrintLast Go.Proofs.YtfoicjlkbkjfjaaW.PrintMore Go.Proofs.Ytfoicjlkbkjfjaa.Num Go.Proofs.Ytfoicjlkbkjfjaa.Bits
set_option linter.unusedVariables false
set_option linter.unusedSimpArgs false
/-- What a step of reading leaves: an error, or what was read, the place behind, and what came out. -/
inductive Res (α : Type) where
  | bad (e : Int) : Res α
  | ok (a : α) (p : Nat) (o : List Int) : Res α
/-- A step of reading: of bytes, the room, the place, and what came out. -/
def RM (α : Type) : Type := ByteArray → Int → Nat → List Int → Res α
def RM.bind {α β : Type} (f : RM α) (g : α → RM β) : RM β := fun s m p o => match f s m p o with
  | .bad e => .bad e
  | .ok a p' o' => g a s m p' o'
def RM.ret {α : Type} (a : α) : RM α := fun _ _ p o => .ok a p o
def RM.err {α : Type} (e : Int) : RM α := fun _ _ _ _ => .bad e
def getM (w : Nat) : RM Int := fun s _ p o => if p + w ≤ 8 * s.size then .ok (val s p w) (p + w) o else .bad 5
def symM (l : List Int) : RM Int := fun s _ p o => if (rdS s l p).2.1 = 0 then .ok (rdS s l p).1 (rdS s l p).2.2 o else .bad (rdS s l p).2.1
def alignM : RM Unit := fun _ _ p o => .ok () (8 * rdAt p) o
def bytesM (n : Nat) : RM (List Int) := fun s _ p o => if rdAt p + n ≤ s.size then .ok (bytesOf (s.extract (rdAt p) (rdAt p + n))) (8 * (rdAt p + n)) o else .bad 5
def lookM : RM (List Int) := fun _ _ p o => .ok o p o
def outM (xs : List Int) : RM Unit := fun _ m p o => if m - (o.length : Int) < (xs.length : Int) then .bad 7 else .ok () p (o ++ xs)
/-- Two texts agree as far as both go. -/
def Agree (s s' : ByteArray) : Prop := ∀ i, i < 8 * s.size → i < 8 * s'.size → bitA s i = bitA s' i
structure Good {α : Type} (f : RM α) : Prop where
  mono : ∀ {s m p o a p' o'}, p ≤ 8 * s.size → f s m p o = .ok a p' o' → p ≤ p' ∧ p' ≤ 8 * s.size ∧ o.length ≤ o'.length
  cut : ∀ {s m p o a p' o'} (s' : ByteArray), p ≤ 8 * s.size → f s m p o = .ok a p' o' → Agree s s' → p ≤ 8 * s'.size → f s' m p o = if p' ≤ 8 * s'.size then .ok a p' o' else .bad 5
  room : ∀ {s m p o a p' o'} (m' : Int), p ≤ 8 * s.size → f s m p o = .ok a p' o' → (o.length : Int) ≤ m → (o.length : Int) ≤ m' → (o'.length : Int) ≤ m ∧ f s m' p o = if (o'.length : Int) ≤ m' then .ok a p' o' else .bad 7
theorem Good.bind {α β : Type} {f : RM α} {g : α → RM β} (hf : Good f) (hg : ∀ a, Good (g a)) : Good (f.bind g) := by
  refine ⟨fun {s m p o a p' o'} hp h => ?_, fun {s m p o a p' o'} s' hp h hA hp' => ?_, fun {s m p o a p' o'} m' hp h hm hm' => ?_⟩
  all_goals
    unfold RM.bind at h
    try unfold RM.bind
    cases h1 : f s m p o with
    | bad e => rw [h1] at h; cases h
    | ok b q r =>
      rw [h1] at h
      dsimp only at h
      obtain ⟨m1, m2, m3⟩ := hf.mono hp h1
      obtain ⟨n1, n2, n3⟩ := (hg b).mono m2 h
      first
      | exact ⟨by omega, n2, by omega⟩
      | (rw [hf.cut s' hp h1 hA hp']
         by_cases hq : q ≤ 8 * s'.size
         · rw [if_pos hq]
           dsimp only
           exact (hg b).cut s' m2 h hA hq
         · rw [if_neg hq, if_neg (by omega)])
      | (obtain ⟨r1, r2⟩ := hf.room m' hp h1 hm hm'
         rw [r2]
         by_cases hq : (r.length : Int) ≤ m'
         · rw [if_pos hq]
           dsimp only
           exact (hg b).room m' m2 h r1 hq
         · rw [if_neg hq, if_neg (by omega)]
           exact ⟨((hg b).room m m2 h r1 r1).1, rfl⟩)
theorem Good.ret {α : Type} (a : α) : Good (RM.ret a) := by
  refine ⟨fun {s m p o a p' o'} hp h => ?_, fun {s m p o a p' o'} s' hp h hA hp' => ?_, fun {s m p o a p' o'} m' hp h hm hm' => ?_⟩
  all_goals
    unfold RM.ret at h
    try unfold RM.ret
    injection h with h1 h2 h3
    subst h1 h2 h3
  · exact ⟨Nat.le_refl _, hp, Nat.le_refl _⟩
  · rw [if_pos hp']
  · exact ⟨hm, by rw [if_pos hm']⟩
theorem Good.err {α : Type} (e : Int) : Good (RM.err e : RM α) := by
  refine ⟨fun {s m p o a p' o'} hp h => ?_, fun {s m p o a p' o'} s' hp h hA hp' => ?_, fun {s m p o a p' o'} m' hp h hm hm' => ?_⟩
  all_goals cases h
theorem Good.look : Good lookM := by
  refine ⟨fun {s m p o a p' o'} hp h => ?_, fun {s m p o a p' o'} s' hp h hA hp' => ?_, fun {s m p o a p' o'} m' hp h hm hm' => ?_⟩
  all_goals
    unfold lookM at h
    try unfold lookM
    injection h with h1 h2 h3
    subst h1 h2 h3
  · exact ⟨Nat.le_refl _, hp, Nat.le_refl _⟩
  · rw [if_pos hp']
  · exact ⟨hm, by rw [if_pos hm']⟩
theorem Good.out (xs : List Int) : Good (outM xs) := by
  refine ⟨fun {s m p o a p' o'} hp h => ?_, fun {s m p o a p' o'} s' hp h hA hp' => ?_, fun {s m p o a p' o'} m' hp h hm hm' => ?_⟩
  all_goals
    unfold outM at h
    try unfold outM
    split at h
    · cases h
    · rename_i hx
      injection h with h1 h2 h3
      subst h1 h2 h3
      first
      | exact ⟨Nat.le_refl _, hp, by simp⟩
      | (rw [if_neg hx, if_pos hp'])
      | (rw [List.length_append]
         refine ⟨by omega, ?_⟩
         by_cases hy : m' - (o.length : Int) < (xs.length : Int)
         · rw [if_pos hy, if_neg (by omega)]
         · rw [if_neg hy, if_pos (by omega)])
theorem Good.align : Good alignM := by
  refine ⟨fun {s m p o a p' o'} hp h => ?_, fun {s m p o a p' o'} s' hp h hA hp' => ?_, fun {s m p o a p' o'} m' hp h hm hm' => ?_⟩
  all_goals
    unfold alignM at h
    try unfold alignM
    injection h with h1 h2 h3
    subst h1 h2 h3
    unfold rdAt at *
  · exact ⟨by omega, by omega, Nat.le_refl _⟩
  · rw [if_pos (by omega)]
  · exact ⟨hm, by rw [if_pos hm']⟩
theorem val_agree {s s' : ByteArray} (h : Agree s s') (p : Nat) : ∀ w, p + w ≤ 8 * s.size → p + w ≤ 8 * s'.size → val s p w = val s' p w
  | 0, _, _ => rfl
  | w + 1, h1, h2 => by rw [val, val, val_agree h p w (by omega) (by omega), h (p + w) (by omega) (by omega)]
theorem Good.get (w : Nat) : Good (getM w) := by
  refine ⟨fun {s m p o a p' o'} hp h => ?_, fun {s m p o a p' o'} s' hp h hA hp' => ?_, fun {s m p o a p' o'} m' hp h hm hm' => ?_⟩
  all_goals
    unfold getM at h
    try unfold getM
    split at h
    · rename_i hx
      injection h with h1 h2 h3
      subst h1 h2 h3
      first
      | exact ⟨by omega, hx, Nat.le_refl _⟩
      | (by_cases hy : p + w ≤ 8 * s'.size
         · rw [if_pos hy, if_pos hy, val_agree hA p w hx hy]
         · rw [if_neg hy, if_neg hy])
      | (rw [if_pos hx, if_pos hm']; exact ⟨hm, rfl⟩)
    · cases h
theorem bt_agree {s s' : ByteArray} (h : Agree s s') (i : Nat) (h1 : i < s.size) (h2 : i < s'.size) : bt s (i : Int) = bt s' i := by
  rw [← val_byte, ← val_byte, val_agree h (8 * i) 8 (by omega) (by omega)]
theorem extract_agree {s s' : ByteArray} (h : Agree s s') (i n : Nat) (h1 : i + n ≤ s.size) (h2 : i + n ≤ s'.size) : s.extract i (i + n) = s'.extract i (i + n) := by
  apply bytes_ext
  refine List.ext_getElem? (fun j => ?_)
  rw [bytesOf_extract, bytesOf_extract, List.getElem?_drop, List.getElem?_drop, List.getElem?_take, List.getElem?_take, bytesOf_get?, bytesOf_get?]
  by_cases hj : i + j < i + n
  · rw [if_pos hj, if_pos hj, if_pos (by omega), if_pos (by omega), bt_agree h (i + j) (by omega) (by omega)]
  · rw [if_neg hj, if_neg hj]
theorem Good.bytes (n : Nat) : Good (bytesM n) := by
  refine ⟨fun {s m p o a p' o'} hp h => ?_, fun {s m p o a p' o'} s' hp h hA hp' => ?_, fun {s m p o a p' o'} m' hp h hm hm' => ?_⟩
  all_goals
    unfold bytesM at h
    try unfold bytesM
    split at h
    · rename_i hx
      injection h with h1 h2 h3
      subst h1 h2 h3
      first
      | exact ⟨by unfold rdAt; omega, by omega, Nat.le_refl _⟩
      | (by_cases hy : rdAt p + n ≤ s'.size
         · rw [if_pos hy, if_pos (by omega), extract_agree hA (rdAt p) n hx hy]
         · rw [if_neg hy, if_neg (by omega)])
      | (rw [if_pos hx, if_pos hm']; exact ⟨hm, rfl⟩)
    · cases h
theorem rdT_agree {s s' : ByteArray} (hA : Agree s s') (many syms : List Int) (lg : Nat) : ∀ (d n : Nat) (code first at_ : Int) (p : Nat) (k : Int) (q : Nat), p ≤ 8 * s.size → p ≤ 8 * s'.size → rdT s many syms lg d n code first at_ p = (k, 0, q) →
    p + 1 ≤ q ∧ q ≤ 8 * s.size ∧ (if q ≤ 8 * s'.size then rdT s' many syms lg d n code first at_ p = (k, 0, q) else (rdT s' many syms lg d n code first at_ p).2.1 = 5)
  | 0, n, code, first, at_, p, k, q, h1, h2, h => by rw [rdT] at h; injection h with _ h; injection h with h _; cases h
  | d + 1, n, code, first, at_, p, k, q, h1, h2, h => by
    rw [rdT] at h
    rw [rdT]
    by_cases hn : n ≤ lg
    · rw [if_pos hn] at h ⊢
      by_cases hp : p + 1 ≤ 8 * s.size
      · rw [if_pos hp] at h
        by_cases hp' : p + 1 ≤ 8 * s'.size
        · rw [if_pos hp', ← val_agree hA p 1 hp hp']
          generalize val s p 1 = b at h ⊢
          by_cases hm : many.getD n 0 ≤ 2 * code + b - first * 2
          · rw [if_pos hm] at h ⊢
            have := rdT_agree hA many syms lg d (n + 1) _ _ _ (p + 1) k q hp hp' h
            exact ⟨by omega, this.2⟩
          · rw [if_neg hm] at h ⊢
            injection h with h3 h4
            injection h4 with h4 h5
            subst h3 h5
            exact ⟨Nat.le_refl _, hp, by rw [if_pos hp']⟩
        · rw [if_neg hp']
          have hq : p + 1 ≤ q ∧ q ≤ 8 * s.size := by
            by_cases hm : many.getD n 0 ≤ 2 * code + val s p 1 - first * 2
            · rw [if_pos hm] at h
              have := rdT_le s many syms lg d (n + 1) (2 * code + val s p 1) (first * 2 + many.getD n 0) (at_ + many.getD n 0) (p + 1) hp
              rw [h] at this
              exact this
            · rw [if_neg hm] at h
              injection h with h3 h4
              injection h4 with h4 h5
              subst h5
              exact ⟨Nat.le_refl _, hp⟩
          exact ⟨hq.1, hq.2, by rw [if_neg (by omega)]⟩
      · rw [if_neg hp] at h; injection h with _ h; injection h with h _; cases h
    · rw [if_neg hn] at h; injection h with _ h; injection h with h _; cases h
theorem rdS_ok {s : ByteArray} {l : List Int} {p : Nat} (h : (rdS s l p).2.1 = 0) : rdS s l p = ((rdS s l p).1, 0, (rdS s l p).2.2) := by
  rw [← h]
theorem rdS_adv {s : ByteArray} {l : List Int} {p : Nat} (hp : p ≤ 8 * s.size) (h : (rdS s l p).2.1 = 0) : p + 1 ≤ (rdS s l p).2.2 :=
  (rdT_agree (s := s) (s' := s) (fun _ _ _ => rfl) _ _ _ _ _ _ _ _ _ _ _ hp hp (rdS_ok h)).1
theorem Good.sym (l : List Int) : Good (symM l) := by
  refine ⟨fun {s m p o a p' o'} hp h => ?_, fun {s m p o a p' o'} s' hp h hA hp' => ?_, fun {s m p o a p' o'} m' hp h hm hm' => ?_⟩
  all_goals
    unfold symM at h
    try unfold symM
    split at h
    · rename_i hx
      injection h with h1 h2 h3
      subst h1 h2 h3
      first
      | exact ⟨Nat.le_of_succ_le (rdS_adv hp hx), rdS_le s l p hp, Nat.le_refl _⟩
      | (have h3 := (rdT_agree hA _ _ _ _ _ _ _ _ _ _ _ hp hp' (rdS_ok hx)).2.2
         by_cases hy : (rdS s l p).2.2 ≤ 8 * s'.size
         · rw [if_pos hy] at h3 ⊢
           have h4 : rdS s' l p = ((rdS s l p).1, 0, (rdS s l p).2.2) := h3
           rw [h4, if_pos rfl]
         · rw [if_neg hy] at h3 ⊢
           have h4 : (rdS s' l p).2.1 = 5 := h3
           rw [if_neg (by omega), h4])
      | (rw [if_pos hx, if_pos hm']; exact ⟨hm, rfl⟩)
    · cases h
/-! The layers. -/
def lensT : List (Int × Nat) := [(3, 0), (4, 0), (5, 0), (6, 0), (7, 0), (8, 0), (9, 0), (10, 0), (11, 1), (13, 1), (15, 1), (17, 1), (19, 2), (23, 2), (27, 2), (31, 2), (35, 3), (43, 3), (51, 3), (59, 3), (67, 4), (83, 4), (99, 4), (115, 4), (131, 5), (163, 5), (195, 5), (227, 5), (258, 0)]
def distT : List (Int × Nat) := [(1, 0), (2, 0), (3, 0), (4, 0), (5, 1), (7, 1), (9, 2), (13, 2), (17, 3), (25, 3), (33, 4), (49, 4), (65, 5), (97, 5), (129, 6), (193, 6), (257, 7), (385, 7), (513, 8), (769, 8), (1025, 9), (1537, 9), (2049, 10), (3073, 10), (4097, 11), (6145, 11), (8193, 12), (12289, 12), (16385, 13), (24577, 13)]
def orderT : List Nat := [16, 17, 18, 0, 8, 7, 9, 6, 10, 5, 11, 4, 12, 3, 13, 2, 14, 1, 15]
def toldM (x : Int × Nat) : RM Int := (getM x.2).bind fun n => RM.ret (x.1 + n)
/-- So many bytes that stand so far ahead, one by one. -/
def copyL (back : Nat) : Nat → List Int → List Int
  | 0, _ => []
  | n + 1, o => o.getD (o.length - back) 0 :: copyL back n (o ++ [o.getD (o.length - back) 0])
theorem copyL_length (back : Nat) : ∀ n o, (copyL back n o).length = n
  | 0, _ => rfl
  | n + 1, o => by rw [copyL, List.length_cons, copyL_length back n]
def repeatM (sym : Nat) (far : List Int) : RM Unit :=
  (toldM (lensT.getD sym (0, 0))).bind fun n => (symM far).bind fun d => if 30 ≤ d then RM.err 4 else
    (toldM (distT.getD d.toNat (0, 0))).bind fun back => lookM.bind fun o => if (o.length : Int) < back then RM.err 3 else outM (copyL back.toNat n.toNat o)
def codedM (near far : List Int) : Nat → RM Unit
  | 0 => RM.err 99
  | k + 1 => (symM near).bind fun n => if n = 256 then RM.ret () else if 286 ≤ n then RM.err 4 else
      if 256 < n then (repeatM (n - 257).toNat far).bind fun _ => codedM near far k else (outM [n % 256]).bind fun _ => codedM near far k
def storedM : RM Unit := alignM.bind fun _ => (getM 16).bind fun n => (getM 16).bind fun m => if n + m ≠ 65535 then RM.err 4 else (bytesM n.toNat).bind fun xs => outM xs
def fixLit : List Int := List.replicate 144 8 ++ List.replicate 112 9 ++ List.replicate 24 7 ++ List.replicate 8 8
def fixDist : List Int := List.replicate 32 5
def headsL (many : Nat) : Nat → Nat → List Int → RM (List Int)
  | 0, _, l => RM.ret l
  | j + 1, i, l => if i < many then (getM 3).bind fun n => headsL many j (i + 1) (l.set (orderT.getD i 0) n) else RM.ret l
def headsM (many : Nat) : RM (List Int) := (headsL many 19 0 (List.replicate 19 0)).bind fun l => if chkF l ≠ 0 then RM.err 4 else RM.ret l
/-- What a symbol of lengths means: what, and how often. -/
def rowM (l : List Int) (many : Nat) : Nat → List Int → RM (List Int)
  | 0, row => RM.err 99
  | k + 1, row => if row.length < many then (symM l).bind fun n =>
      if n = 16 ∧ row = [] then RM.err 4 else
      (toldM (if n = 16 then (3, 2) else if n = 17 then (3, 3) else if n = 18 then (11, 7) else (1, 0))).bind fun times =>
        if (many : Int) - row.length < times then RM.err 4 else
        rowM l many k (row ++ List.replicate times.toNat (if n = 16 then row.getD (row.length - 1) 0 else if n = 17 ∨ n = 18 then 0 else n))
    else RM.ret row
def sumL : List Int → Int
  | [] => 0
  | x :: t => x + sumL t
def reachB (l : List Int) : Bool := decide (sumL l < 2) || decide (chkF l = 0)
def bigK : Nat := 80000001
def ownM : RM Unit := (getM 5).bind fun a => (getM 5).bind fun b => (getM 4).bind fun c => if 29 < a ∨ 29 < b then RM.err 4 else
  (headsM (c.toNat + 4)).bind fun l => (rowM l (a.toNat + b.toNat + 258) 400 []).bind fun row =>
    if chkF (row.take (a.toNat + 257)) ≠ 0 ∨ row.getD 256 0 = 0 ∨ reachB (row.drop (a.toNat + 257)) = false then RM.err 4 else codedM (row.take (a.toNat + 257)) (row.drop (a.toNat + 257)) bigK
def blockM : RM Int := (getM 1).bind fun last => (getM 2).bind fun kind => (if kind = 0 then storedM else if kind = 1 then codedM fixLit fixDist bigK else if kind = 2 then ownM else RM.err 4).bind fun _ => RM.ret last
def infM : Nat → RM Unit
  | 0 => RM.err 99
  | k + 1 => blockM.bind fun last => if last = 1 then RM.ret () else infM k
/-- What Inflate answers: bytes, how many were read, the error. -/
def inflF (s : ByteArray) (m : Int) : ByteArray × Int × Int := if m < 0 then (⟨#[]⟩, 0, 2) else match infM bigK s m 0 [] with
  | .bad e => (⟨#[]⟩, 0, e)
  | .ok _ p o => (strOfNums o, (rdAt p : Int), 0)
theorem Good.ite {α : Type} {c : Prop} [Decidable c] {f g : RM α} (hf : Good f) (hg : Good g) : Good (if c then f else g) := by split <;> assumption
theorem Good.told (x : Int × Nat) : Good (toldM x) := (Good.get _).bind fun _ => Good.ret _
theorem Good.repeat_ (sym : Nat) (far : List Int) : Good (repeatM sym far) :=
  (Good.told _).bind fun _ => (Good.sym _).bind fun _ => Good.ite (Good.err _) ((Good.told _).bind fun _ => Good.look.bind fun _ => Good.ite (Good.err _) (Good.out _))
theorem Good.coded (near far : List Int) : ∀ k, Good (codedM near far k)
  | 0 => Good.err _
  | k + 1 => (Good.sym _).bind fun _ => Good.ite (Good.ret _) (Good.ite (Good.err _) (Good.ite ((Good.repeat_ _ _).bind fun _ => Good.coded near far k) ((Good.out _).bind fun _ => Good.coded near far k)))
theorem Good.stored : Good storedM := Good.align.bind fun _ => (Good.get _).bind fun _ => (Good.get _).bind fun _ => Good.ite (Good.err _) ((Good.bytes _).bind fun _ => Good.out _)
theorem Good.headsL (many : Nat) : ∀ j i l, Good (headsL many j i l)
  | 0, _, _ => Good.ret _
  | j + 1, i, l => Good.ite ((Good.get _).bind fun _ => Good.headsL many j _ _) (Good.ret _)
theorem Good.heads (many : Nat) : Good (headsM many) := (Good.headsL _ _ _ _).bind fun _ => Good.ite (Good.err _) (Good.ret _)
theorem Good.row (l : List Int) (many : Nat) : ∀ k row, Good (rowM l many k row)
  | 0, _ => Good.err _
  | k + 1, row => Good.ite ((Good.sym _).bind fun _ => Good.ite (Good.err _) ((Good.told _).bind fun _ => Good.ite (Good.err _) (Good.row l many k _))) (Good.ret _)
theorem Good.own : Good ownM :=
  (Good.get _).bind fun _ => (Good.get _).bind fun _ => (Good.get _).bind fun _ => Good.ite (Good.err _) ((Good.heads _).bind fun _ => (Good.row _ _ _ _).bind fun _ => Good.ite (Good.err _) (Good.coded _ _ _))
theorem Good.block : Good blockM := (Good.get _).bind fun _ => (Good.get _).bind fun _ => (Good.ite Good.stored (Good.ite (Good.coded _ _ _) (Good.ite Good.own (Good.err _)))).bind fun _ => Good.ret _
theorem Good.inf : ∀ k, Good (infM k)
  | 0 => Good.err _
  | k + 1 => Good.block.bind fun _ => Good.ite (Good.ret _) (Good.inf k)
/-! No error is 0. -/
structure NZ {α : Type} (f : RM α) : Prop where
  nz : ∀ {s m p o c}, f s m p o = .bad c → c ≠ 0
theorem NZ.bind {α β : Type} {f : RM α} {g : α → RM β} (hf : NZ f) (hg : ∀ a, NZ (g a)) : NZ (f.bind g) := ⟨fun {s m p o c} h => by
  unfold RM.bind at h
  cases h1 : f s m p o with
  | bad e => rw [h1] at h; injection h with h; subst h; exact hf.nz h1
  | ok a q r => rw [h1] at h; exact (hg a).nz h⟩
theorem NZ.ret {α : Type} (a : α) : NZ (RM.ret a) := ⟨fun h => by cases h⟩
theorem NZ.err {α : Type} (e : Int) (he : e ≠ 0) : NZ (RM.err e : RM α) := ⟨fun h => by injection h with h; subst h; exact he⟩
theorem NZ.look : NZ lookM := ⟨fun h => by cases h⟩
theorem NZ.align : NZ alignM := ⟨fun h => by cases h⟩
theorem NZ.out (xs : List Int) : NZ (outM xs) := ⟨fun h => by unfold outM at h; split at h; injection h with h; subst h; decide; cases h⟩
theorem NZ.get (w : Nat) : NZ (getM w) := ⟨fun h => by unfold getM at h; split at h; cases h; injection h with h; subst h; decide⟩
theorem NZ.bytes (n : Nat) : NZ (bytesM n) := ⟨fun h => by unfold bytesM at h; split at h; cases h; injection h with h; subst h; decide⟩
theorem NZ.sym (l : List Int) : NZ (symM l) := ⟨fun h => by
  unfold symM at h
  split at h
  · cases h
  · rename_i hx; injection h with h; subst h; exact hx⟩
theorem NZ.ite {α : Type} {c : Prop} [Decidable c] {f g : RM α} (hf : NZ f) (hg : NZ g) : NZ (if c then f else g) := by split <;> assumption
theorem NZ.told (x : Int × Nat) : NZ (toldM x) := (NZ.get _).bind fun _ => NZ.ret _
theorem NZ.repeat_ (sym : Nat) (far : List Int) : NZ (repeatM sym far) :=
  (NZ.told _).bind fun _ => (NZ.sym _).bind fun _ => NZ.ite (NZ.err _ (by decide)) ((NZ.told _).bind fun _ => NZ.look.bind fun _ => NZ.ite (NZ.err _ (by decide)) (NZ.out _))
theorem NZ.coded (near far : List Int) : ∀ k, NZ (codedM near far k)
  | 0 => NZ.err _ (by decide)
  | k + 1 => (NZ.sym _).bind fun _ => NZ.ite (NZ.ret _) (NZ.ite (NZ.err _ (by decide)) (NZ.ite ((NZ.repeat_ _ _).bind fun _ => NZ.coded near far k) ((NZ.out _).bind fun _ => NZ.coded near far k)))
theorem NZ.stored : NZ storedM := NZ.align.bind fun _ => (NZ.get _).bind fun _ => (NZ.get _).bind fun _ => NZ.ite (NZ.err _ (by decide)) ((NZ.bytes _).bind fun _ => NZ.out _)
theorem NZ.headsL (many : Nat) : ∀ j i l, NZ (headsL many j i l)
  | 0, _, _ => NZ.ret _
  | j + 1, i, l => NZ.ite ((NZ.get _).bind fun _ => NZ.headsL many j _ _) (NZ.ret _)
theorem NZ.heads (many : Nat) : NZ (headsM many) := (NZ.headsL _ _ _ _).bind fun _ => NZ.ite (NZ.err _ (by decide)) (NZ.ret _)
theorem NZ.row (l : List Int) (many : Nat) : ∀ k row, NZ (rowM l many k row)
  | 0, _ => NZ.err _ (by decide)
  | k + 1, row => NZ.ite ((NZ.sym _).bind fun _ => NZ.ite (NZ.err _ (by decide)) ((NZ.told _).bind fun _ => NZ.ite (NZ.err _ (by decide)) (NZ.row l many k _))) (NZ.ret _)
theorem NZ.own : NZ ownM :=
  (NZ.get _).bind fun _ => (NZ.get _).bind fun _ => (NZ.get _).bind fun _ => NZ.ite (NZ.err _ (by decide)) ((NZ.heads _).bind fun _ => (NZ.row _ _ _ _).bind fun _ => NZ.ite (NZ.err _ (by decide)) (NZ.coded _ _ _))
theorem NZ.block : NZ blockM := (NZ.get _).bind fun _ => (NZ.get _).bind fun _ => (NZ.ite NZ.stored (NZ.ite (NZ.coded _ _ _) (NZ.ite NZ.own (NZ.err _ (by decide))))).bind fun _ => NZ.ret _
end Go.Proofs.Ytfoicjlkbkjfjaa.Hand
