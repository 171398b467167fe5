/- Squeeze: the document's Stored; walked by hand. -/
import Derived.Test.YtfoicjlkbkjfjaaHand11l
namespace Go.Proofs.Ytfoicjlkbkjfjaa.Hand
open Go.RowKit Go.Proofs.YtfoicjlkbkjfjaaW.PrintWords Go.Proofs.YtfoicjlkbkjfjaaW.PrintLast Go.Proofs.YtfoicjlkbkjfjaaW.PrintMore Go.Proofs.Ytfoicjlkbkjfjaa.Num Go.Proofs.Ytfoicjlkbkjfjaa.Bits
set_option linter.unusedVariables false
set_option linter.unusedSimpArgs false
theorem s_app_str_wp {P : Program} {o : Oper} {a : Act} {ops : Array Oper} {rest : List Oper} {W : World} {Q : Exit → Act → World → Prop} (B : Nat) (hgd : o.guard = none) (sl x : Operand) (t u e : TypeId)
    (ho : o.op = .call { callee := .builtin .append, args := #[sl, x], argTypes := #[t, u] })
    (ht : P.underlying t = some (.slice e)) (hu : P.underlying u = some .string) (hinfo : (P.info? e).map (fun i => (i.zero, i.size, i.bytes)) = some (some (.int .u8 0), 1, 1))
    (v : Value) (xs : List Int) (s : ByteArray) (hs : a.eval sl = v) (hx : a.eval x = .string s) (HO : Row W B e .u8 v xs) (hB : B ≤ W.heap.size) (h63 : xs.length + s.size ≤ maxLen) (hl : xs.length + s.size ≤ 140737488355328)
    (h : ∀ v1 w1, App W w1 B e .u8 v v1 (xs ++ bytesOf s) → wpList P ops Q rest (a.put o.dst v1) w1) : wpList P ops Q (o :: rest) a W := by
  obtain ⟨i0, hi, hzz⟩ := Option.map_eq_some_iff.1 hinfo
  simp only [Prod.mk.injEq] at hzz
  obtain ⟨hz0, hz1, hz2⟩ := hzz
  refine Go.Lib.wpList_append_own_string W hgd sl x t u ho B e i0 ht hu hi hz0 hz1 hz2 v xs.length (nums .u8 xs) hs HO s hx h63 hl hB (fun v1 w1 hown hg _ => h v1 w1 ⟨?_, hg⟩)
  unfold Row
  have e1 : nums .u8 (bytesOf s) = Go.Lib.strCells s := by simp [nums, bytesOf, Go.Lib.strCells]
  rw [List.length_append, bytesOf_length, nums_append, e1]
  exact hown
def headR (n l : Int) : List Int := [l, n % 256, n / 256, (65535 - n) % 256, (65535 - n) / 256]
def refB : Nat → ByteArray → List Int → List Int
  | 0, _, o => o
  | k + 1, s, o => if s.size ≤ 65535 then o ++ headR s.size 1 ++ bytesOf s else refB k (s.extract 65535 s.size) (o ++ headR 65535 0 ++ bytesOf (s.extract 0 65535))
def refStoreF (s : ByteArray) : ByteArray := strOfNums (refB (s.size / 65535 + 1) s [])
set_option maxRecDepth 100000 in
set_option maxHeartbeats 1500000 in
theorem refstored_calls (w : World) (s : ByteArray) (hs : s.size ≤ 100000) :
    Calls Try.prog 11 #[.string s] w fun e w' => e = .returned (.string (refStoreF s)) ∧ Below w.heap.size w w' := by
  go_enter Try.func11, Try.ntmps11
  go_wp2_with fail
  have hW := Row.empty w w.heap.size 5 .u8 (Nat.le_refl _)
  have hB := below_alloc (Below.refl w.heap.size w) (.cells #[] 5)
  have H0 : Aside0 (_ ∧ _) := ⟨hW, hB⟩
  generalize (w.alloc (.cells #[] 5)) = W0 at *
  clear hW hB
  go_loopw [0, 3] (fun v0 v3 wr => ∃ (k : Nat) (s2 : ByteArray) (o : List Int), v0 = .string s2 ∧ s2.size ≤ 100000 ∧ s2.size < 65535 * k ∧ o.length + 2 * s2.size ≤ 200100 ∧ Aside0 (refB k s2 o = refB (s.size / 65535 + 1) s [] ∧ Row wr w.heap.size 5 .u8 v3 o ∧ Below w.heap.size w wr)) (fun v0 _ _ => (match v0 with | .string t => t.size | _ => 0))
  case atStart => exact ⟨_, s, [], rfl, hs, by omega, by simp; omega, ⟨rfl, H0.out.1, H0.out.2⟩⟩
  case round =>
    clear H0
    obtain ⟨k, s2, o, rfl, hs2, hk, hL, HR⟩ := hrel
    obtain ⟨k, rfl⟩ : ∃ k', k = k' + 1 := ⟨k - 1, by omega⟩
    obtain ⟨A3, n3, k3, hv3, hn3⟩ := HR.out.2.1.shape
    subst hv3
    have heq := HR.out.1
    rw [refB] at heq
    by_cases hl : s2.size ≤ 65535
    · have q2 : ((s2.size : Int) == (s2.size : Int)) = true := by rw [beq_iff_eq]
      rw [if_pos hl] at heq
      have HEQ := Aside0.mk heq
      have HEQ2 := HEQ
      clear heq
      have HB := Aside0.mk HR.out.2.2.size
      have w0 : IntKind.u8.wrap ((s2.size : Int) % 256) = (s2.size : Int) % 256 := (IntKind.wrap_u8 _).trans (by omega)
      have w1 : IntKind.u8.wrap ((s2.size : Int) / 256) = (s2.size : Int) / 256 := (IntKind.wrap_u8 _).trans (by omega)
      have w2 : IntKind.u8.wrap ((65535 - (s2.size : Int)) % 256) = (65535 - (s2.size : Int)) % 256 := (IntKind.wrap_u8 _).trans (by omega)
      have w3 : IntKind.u8.wrap ((65535 - (s2.size : Int)) / 256) = (65535 - (s2.size : Int)) / 256 := (IntKind.wrap_u8 _).trans (by omega)
      have hsx : s2.size ≤ 65535 := by omega
      clear HEQ
      go_wp2_with (first
        | (at_builtin; refine app_wp w.heap.size rfl _ _ 25 5 .u8 1 rfl Try.underlying25 infoU8 (.slice A3 n3 k3) o [1, (s2.size : Int) % 256, (s2.size : Int) / 256, (65535 - (s2.size : Int)) % 256, (65535 - (s2.size : Int)) / 256] rfl ⟨wr.heap.size, 0, none⟩ 5 5 rfl rfl (news_lit wr .u8 _ _ _ (by rfl)) (HR.out.2.1.alloc _) (by have := HB.out; simp; omega) (by unfold maxLen; omega) (by omega) ?_; intro v4 w4 hap; obtain ⟨A4, n4, k4, hv4, hn4⟩ := hap.row.shape; subst hv4; have HP4 := Aside0.mk hap; have hs4 : w.heap.size ≤ w4.heap.size := (by have h1 := hap.grown.size; have h2 := HB.out; simp at h1; omega); clear hap)
        | (at_builtin; refine s_app_str_wp w.heap.size rfl _ _ 25 9 5 rfl Try.underlying25 Try.underlying9 infoU8 (.slice A4 n4 k4) (o ++ [1, (s2.size : Int) % 256, (s2.size : Int) / 256, (65535 - (s2.size : Int)) % 256, (65535 - (s2.size : Int)) / 256]) s2 rfl rfl HP4.out.row hs4 (by unfold maxLen; simp; omega) (by simp; omega) ?_; intro v5 w5 hap5; obtain ⟨A5, n5, k5, hv5, hn5⟩ := hap5.row.shape; subst hv5; have HP5 := Aside0.mk hap5; have hrs := hap5.row.str (P := Try.prog) (src := 25) (dst := 9) Try.underlying25 Try.underlying5 Try.underlying9; clear hap5))
      have HBL : Aside0 (_) := ⟨HR.out.2.2.trans ((HP4.out.below1 HR.out.2.1 HB.out).trans (HP5.out.below HP4.out.row hs4))⟩
      have he : refStoreF s = strOfNums (o ++ [1, (s2.size : Int) % 256, (s2.size : Int) / 256, (65535 - (s2.size : Int)) % 256, (65535 - (s2.size : Int)) / 256] ++ bytesOf s2) := by unfold refStoreF; rw [← HEQ2.out]; rfl
      simp only [List.append_assoc, List.cons_append, List.nil_append] at he
      rw [he]
      go_returns
      exact ⟨rfl, HBL.out⟩
    · have q2 : ((65535 : Int) == (s2.size : Int)) = false := by rw [beq_eq_false_iff_ne]; omega
      rw [if_neg hl] at heq
      have HEQ := Aside0.mk heq
      have HEQ2 := HEQ
      clear heq
      have HB := Aside0.mk HR.out.2.2.size
      have w0 : IntKind.u8.wrap ((65535 : Int) % 256) = (65535 : Int) % 256 := (IntKind.wrap_u8 _).trans (by omega)
      have w1 : IntKind.u8.wrap ((65535 : Int) / 256) = (65535 : Int) / 256 := (IntKind.wrap_u8 _).trans (by omega)
      have w2 : IntKind.u8.wrap ((65535 - (65535 : Int)) % 256) = (65535 - (65535 : Int)) % 256 := (IntKind.wrap_u8 _).trans (by omega)
      have w3 : IntKind.u8.wrap ((65535 - (65535 : Int)) / 256) = (65535 - (65535 : Int)) / 256 := (IntKind.wrap_u8 _).trans (by omega)
      have hsx : (s2.extract 0 65535).size ≤ 65535 := by rw [ByteArray.size_extract]; omega
      clear HEQ
      go_wp2_with (first
        | (at_builtin; refine app_wp w.heap.size rfl _ _ 25 5 .u8 1 rfl Try.underlying25 infoU8 (.slice A3 n3 k3) o [0, 255, 255, 0, 0] rfl ⟨wr.heap.size, 0, none⟩ 5 5 rfl rfl (news_lit wr .u8 _ _ _ (by rfl)) (HR.out.2.1.alloc _) (by have := HB.out; simp; omega) (by unfold maxLen; omega) (by omega) ?_; intro v4 w4 hap; obtain ⟨A4, n4, k4, hv4, hn4⟩ := hap.row.shape; subst hv4; have HP4 := Aside0.mk hap; have hs4 : w.heap.size ≤ w4.heap.size := (by have h1 := hap.grown.size; have h2 := HB.out; simp at h1; omega); clear hap)
        | (at_builtin; refine s_app_str_wp w.heap.size rfl _ _ 25 9 5 rfl Try.underlying25 Try.underlying9 infoU8 (.slice A4 n4 k4) (o ++ [0, 255, 255, 0, 0]) (s2.extract 0 65535) rfl rfl HP4.out.row hs4 (by unfold maxLen; simp; omega) (by simp; omega) ?_; intro v5 w5 hap5; obtain ⟨A5, n5, k5, hv5, hn5⟩ := hap5.row.shape; subst hv5; have HP5 := Aside0.mk hap5; have hrs := hap5.row.str (P := Try.prog) (src := 25) (dst := 9) Try.underlying25 Try.underlying5 Try.underlying9; clear hap5))
      have HBL : Aside0 (_) := ⟨HR.out.2.2.trans ((HP4.out.below1 HR.out.2.1 HB.out).trans (HP5.out.below HP4.out.row hs4))⟩
      have hxs : (s2.extract 65535 s2.size).size = s2.size - 65535 := by rw [ByteArray.size_extract]; omega
      have hx0 : (s2.extract 0 65535).size = 65535 := by rw [ByteArray.size_extract]; omega
      clear hrs
      go_roundw
      case rel => exact ⟨k, s2.extract 65535 s2.size, _, rfl, by omega, by omega, by rw [List.length_append, List.length_append, bytesOf_length, hxs, hx0]; have : (headR 65535 0).length = 5 := rfl; omega, ⟨HEQ2.out, HP5.out.row, HBL.out⟩⟩
      case measure => show (s2.extract 65535 s2.size).size < s2.size; omega
def binderyref11_Stored.f (a0 : ByteArray) : Option ByteArray := if a0.size ≤ 100000 then some (refStoreF a0) else none
theorem binderyref11_Stored.calls (a0 : ByteArray) (r : ByteArray) (w : World) (h : binderyref11_Stored.f a0 = some r) :
    Calls Try.prog 11 #[.string a0] w fun e w' => e = .returned (.string r) ∧ Below w.heap.size w w' := by
  unfold binderyref11_Stored.f at h
  split at h
  · rename_i hs
    injection h with h
    subst h
    exact refstored_calls w a0 hs
  · cases h
end Go.Proofs.Ytfoicjlkbkjfjaa.Hand
