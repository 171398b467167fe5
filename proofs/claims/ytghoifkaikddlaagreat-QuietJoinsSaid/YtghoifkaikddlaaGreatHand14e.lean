/- coat.Encode, over the contracts of what the filters do; walked by hand. -/
import Derived.Test.YtghoifkaikddlaaGreatHand14c
namespace Go.Proofs.YtghoifkaikddlaaGreat.Hand
open Go.RowKit Go.Proofs.YtghoifkaikddlaaGreatW.PrintWords Go.Proofs.YtghoifkaikddlaaGreatW.PrintLast Go.Proofs.YtghoifkaikddlaaGreat.Num
set_option linter.unusedVariables false
set_option linter.unusedSimpArgs false
/-- What filters do to bytes, the last one first. -/
def foldOn (ON : Nat → ByteArray → ByteArray) (l : List ByteArray) (s : ByteArray) : ByteArray := l.foldr (fun nm x => ON (kn nm) x) s
/-- What the filters of a kind are known to do. -/
structure OnOk (ON : Nat → ByteArray → ByteArray) (K : Nat → Prop) : Prop where
  c1 : K 1 → ∀ (s : ByteArray) (w : World), s.size ≤ 60000 → Calls Tryz.prog 49 #[.string s] w fun e w' => e = .returned (.string (ON 1 s)) ∧ Below w.heap.size w w'
  c2 : K 2 → ∀ (s : ByteArray) (w : World), s.size ≤ 60000 → Calls Tryz.prog 51 #[.string s] w fun e w' => e = .returned (.string (ON 2 s)) ∧ Below w.heap.size w w'
  c3 : K 3 → ∀ (s : ByteArray) (w : World), s.size ≤ 60000 → Calls Tryz.prog 53 #[.string s] w fun e w' => e = .returned (.string (ON 3 s)) ∧ Below w.heap.size w w'
  sz : ∀ (k : Nat) (s : ByteArray), K k → s.size ≤ 60000 → (ON k s).size ≤ 2 * s.size + 20
/-- What coat.Encode tells. -/
def encF (ON : Nat → ByteArray → ByteArray) (PE : ByteArray → Int → ByteArray × Int) (l : List ByteArray) (c : Int) (s : ByteArray) : ByteArray × Int :=
  if chkF l c = 0 then (if 0 < c then (if (PE s c).2 = 0 then (foldOn ON l (PE s c).1, 0) else (⟨#[]⟩, (PE s c).2)) else (foldOn ON l s, 0)) else (⟨#[]⟩, chkF l c)
theorem pow_le (s : Nat) : ∀ j, j ≤ 4 → 2 ^ j * (s + 20) ≤ 16 * (s + 20) := fun j hj => Nat.mul_le_mul_right _ (by
  rcases (by omega : j = 0 ∨ j = 1 ∨ j = 2 ∨ j = 3 ∨ j = 4) with rfl | rfl | rfl | rfl | rfl <;> decide)
set_option maxRecDepth 100000 in
set_option maxHeartbeats 8000000 in
/-- The rounds of Encode. -/
theorem encode_calls (ON : Nat → ByteArray → ByteArray) (PE : ByteArray → Int → ByteArray × Int) (K : Nat → Prop) (OK : OnOk ON K) (A : Option Addr) (n cap : Nat) (l : List ByteArray) (c : Int) (s : ByteArray) (w : World) (hn : n = l.length) (hl : Strs w A l)
    (hK : ∀ i, i < l.length → K (kn (l.getD i ⟨#[]⟩))) (hs : s.size ≤ 2000)
    (hP : chkF l c = 0 → 0 < c → (∀ W, Calls Tryz.prog 25 #[.string s, .int .i64 c] W fun e w' => e = .returned (.tuple #[.string (PE s c).1, .int .i64 (PE s c).2]) ∧ Below W.heap.size W w') ∧ (PE s c).1.size ≤ 3000) :
    Calls Tryz.prog 17 #[.slice A n cap, .int .i64 c, .string s] w fun e w' => e = .returned (.tuple #[.string (encF ON PE l c s).1, .int .i64 (encF ON PE l c s).2]) ∧ Below w.heap.size w w' := by
  have HN := Aside0.mk hn
  have KC := Aside0.mk (fun W (h : Strs W A l) => check_calls A n cap l c W hn h)
  have hb0 : decide ((1048576 : Int) < (s.size : Int)) = false := decide_eq_false (by omega)
  clear hn
  by_cases hc : chkF l c = 0
  · obtain ⟨h4, hkn⟩ := chk_len hc
    -- the rounds, from any text
    have hP2 := hP hc
    obtain ⟨r, hr⟩ : ∃ r, r = encF ON PE l c s := ⟨_, rfl⟩
    rw [← hr]
    unfold encF at hr
    rw [if_pos hc] at hr
    rw [hc] at KC
    clear hc hP
    have LOOP : ∀ (x0 : ByteArray) (w1 : World) (a : Act) (K' : Act → World → Prop), x0.size ≤ 3000 → True := fun _ _ _ _ _ => trivial
    by_cases hc0 : 0 < c
    · have q0 : decide ((0 : Int) < c) = true := decide_eq_true hc0
      rw [if_pos hc0] at hr
      obtain ⟨KP0, hps⟩ := hP2 hc0
      clear hP2 LOOP
      obtain ⟨⟨p1, pe⟩, hpe⟩ : ∃ p, p = PE s c := ⟨_, rfl⟩
      rw [← hpe] at hr KP0 hps
      clear hpe
      have KP := Aside0.mk KP0
      clear KP0
      dsimp only at KP hr hps
      by_cases hpz : pe = 0
      · subst hpz
        rw [if_pos rfl] at hr
        subst hr
        obtain ⟨R, hR⟩ : ∃ R, R = foldOn ON l p1 := ⟨_, rfl⟩
        rw [← hR]
        have HR := Aside0.mk hR
        clear hR
        dsimp only
        go_enter Tryz.func17, Tryz.ntmps17
        go_wp2_with (first | (go_at_call 19; (with_reducible refine (KC.out _ hl).mono ?_); rintro e w1 ⟨rfl, hb1⟩) | (go_at_call 25; (with_reducible refine (KP.out _).mono ?_); rintro e w1' ⟨rfl, hbp⟩; have hb1 := hb1.trans (hbp.mono hb1.size); clear hbp))
        go_loopw [2, 11] (fun v2 v11 wr => ∃ (i : Nat) (z : Int) (x : ByteArray), i ≤ n ∧ v11 = .int .i64 z ∧ v2 = .string x ∧ Aside0 (z = (i : Int) - 1) ∧ Aside0 (x = foldOn ON (l.drop i) p1) ∧ Aside0 (x.size + 20 ≤ 2 ^ (n - i) * (p1.size + 20)) ∧ Aside0 (Below w.heap.size w wr)) (fun _ v11 _ => (intOf v11 + 1).toNat)
        case atStart => exact ⟨n, (n : Int) - 1, p1, Nat.le_refl _, by rw [w64 (by omega) (by have := HN.out; omega)], rfl, ⟨rfl⟩, ⟨by rw [HN.out, List.drop_length]; rfl⟩, ⟨by rw [Nat.sub_self]; omega⟩, ⟨hb1⟩⟩
        case round =>
          obtain ⟨i, z, x, hi, rfl, rfl, HZ, HX, HS, HB⟩ := hrel
          rcases Nat.eq_zero_or_pos i with rfl | hpos
          · have hz : z = -1 := by rw [HZ.out]; rfl
            subst hz
            have hx : x = R := by rw [HX.out, HR.out, List.drop_zero]
            subst hx
            go_wp2_with fail
            go_returns
            exact ⟨rfl, HB.out⟩
          · obtain ⟨m, rfl⟩ : ∃ m, i = m + 1 := ⟨i - 1, by omega⟩
            have hz : z = (m : Int) := by rw [HZ.out]; omega
            subst hz
            have r1 : decide ((0 : Int) ≤ (m : Int)) = true := decide_eq_true (by omega)
            have hm : m < n := by omega
            have hml : m < l.length := by have := HN.out; omega
            obtain ⟨ad, rfl, hcl⟩ := (hl.below HB.out) m hml
            have hk0 := hkn m hml
            have hkK := hK m hml
            have hdr := drop_getD hml
            obtain ⟨nm, hnm⟩ : ∃ nm, nm = l.getD m ⟨#[]⟩ := ⟨_, rfl⟩
            rw [← hnm] at hcl hk0 hkK hdr
            have KF := Aside0.mk (fun W => find_calls nm 0 W)
            have hle := kn_le nm
            have HDR := Aside0.mk hdr
            have hxs : x.size ≤ 60000 := by have := HS.out; have := pow_le p1.size (n - (m + 1)) (by have := HN.out; omega); omega
            have HSZ := Aside0.mk (OK.sz (kn nm) x hkK hxs)
            have hpw : 2 ^ (n - m) = 2 * 2 ^ (n - (m + 1)) := by rw [show n - m = n - (m + 1) + 1 by omega, Nat.pow_succ]; omega
            have HPW := Aside0.mk hpw
            clear hnm hdr hpw
            obtain ⟨k, hk⟩ : ∃ k, k = kn nm := ⟨_, rfl⟩
            rw [← hk] at KF hk0 hkK hle HSZ
            have HKK := Aside0.mk hk
            clear hk
            rcases (by omega : k = 1 ∨ k = 2 ∨ k = 3) with rfl | rfl | rfl
            · have KO := Aside0.mk (fun W => OK.c1 hkK x W hxs)
              go_wp2_with (first | (go_at_call 26; (with_reducible refine (KF.out _).mono ?_); rintro e w2 ⟨rfl, hb2⟩; have tb0 := heap_alloc_new w2 (.cells #[.string ⟨#[]⟩, .nilFunc, .nilFunc] 51)) | (refine wpList_store_rowTo rfl 51 _ _ rfl rfl w2.heap.size #[.string hexN, .func (.func 49) #[] #[], .func (.func 50) #[] #[]] rfl rfl 51 _ tb0 filtInfo rfl (filt_one _ _ _ _) ?_; have tb := setRow_heap _ _ _ #[.string hexN, .func (.func 49) #[] #[], .func (.func 50) #[] #[]] _ _ tb0; have HB3 := Aside0.mk (below_box (HB.out.trans (hb2.mono HB.out.size)) (.cells #[.string ⟨#[]⟩, .nilFunc, .nilFunc] 51) #[.string hexN, .func (.func 49) #[] #[], .func (.func 50) #[] #[]]); clear tb0 hb2; generalize World.setRow _ _ #[.string hexN, .func (.func 49) #[] #[], .func (.func 50) #[] #[]] = W5 at tb HB3 ⊢; have e1 := blk_cell tb 1) | (go_at_call 49; (with_reducible refine (KO.out _).mono ?_); rintro e w6 ⟨rfl, hb6⟩))
              go_roundw
              case rel => exact ⟨m, (m : Int) - 1, _, by omega, rfl, rfl, ⟨rfl⟩, ⟨by rw [HDR.out]; show _ = ON (kn nm) (foldOn ON (l.drop (m + 1)) p1); rw [← HKK.out, ← HX.out]⟩, ⟨by rw [HPW.out, Nat.mul_assoc]; have := HS.out; have := HSZ.out; omega⟩, ⟨HB3.out.trans (hb6.mono HB3.out.size)⟩⟩
              case measure => simp [intOf]
            · have KO := Aside0.mk (fun W => OK.c2 hkK x W hxs)
              go_wp2_with (first | (go_at_call 26; (with_reducible refine (KF.out _).mono ?_); rintro e w2 ⟨rfl, hb2⟩; have tb0 := heap_alloc_new w2 (.cells #[.string ⟨#[]⟩, .nilFunc, .nilFunc] 51)) | (refine wpList_store_rowTo rfl 51 _ _ rfl rfl w2.heap.size #[.string runsN, .func (.func 51) #[] #[], .func (.func 52) #[.int .i64 0] #[]] rfl rfl 51 _ tb0 filtInfo rfl (filt_one _ _ _ _) ?_; have tb := setRow_heap _ _ _ #[.string runsN, .func (.func 51) #[] #[], .func (.func 52) #[.int .i64 0] #[]] _ _ tb0; have HB3 := Aside0.mk (below_box (HB.out.trans (hb2.mono HB.out.size)) (.cells #[.string ⟨#[]⟩, .nilFunc, .nilFunc] 51) #[.string runsN, .func (.func 51) #[] #[], .func (.func 52) #[.int .i64 0] #[]]); clear tb0 hb2; generalize World.setRow _ _ #[.string runsN, .func (.func 51) #[] #[], .func (.func 52) #[.int .i64 0] #[]] = W5 at tb HB3 ⊢; have e1 := blk_cell tb 1) | (go_at_call 51; (with_reducible refine (KO.out _).mono ?_); rintro e w6 ⟨rfl, hb6⟩))
              go_roundw
              case rel => exact ⟨m, (m : Int) - 1, _, by omega, rfl, rfl, ⟨rfl⟩, ⟨by rw [HDR.out]; show _ = ON (kn nm) (foldOn ON (l.drop (m + 1)) p1); rw [← HKK.out, ← HX.out]⟩, ⟨by rw [HPW.out, Nat.mul_assoc]; have := HS.out; have := HSZ.out; omega⟩, ⟨HB3.out.trans (hb6.mono HB3.out.size)⟩⟩
              case measure => simp [intOf]
            · have KO := Aside0.mk (fun W => OK.c3 hkK x W hxs)
              go_wp2_with (first | (go_at_call 26; (with_reducible refine (KF.out _).mono ?_); rintro e w2 ⟨rfl, hb2⟩; have tb0 := heap_alloc_new w2 (.cells #[.string ⟨#[]⟩, .nilFunc, .nilFunc] 51)) | (refine wpList_store_rowTo rfl 51 _ _ rfl rfl w2.heap.size #[.string deflN, .func (.func 53) #[] #[], .func (.func 54) #[.int .i64 0] #[]] rfl rfl 51 _ tb0 filtInfo rfl (filt_one _ _ _ _) ?_; have tb := setRow_heap _ _ _ #[.string deflN, .func (.func 53) #[] #[], .func (.func 54) #[.int .i64 0] #[]] _ _ tb0; have HB3 := Aside0.mk (below_box (HB.out.trans (hb2.mono HB.out.size)) (.cells #[.string ⟨#[]⟩, .nilFunc, .nilFunc] 51) #[.string deflN, .func (.func 53) #[] #[], .func (.func 54) #[.int .i64 0] #[]]); clear tb0 hb2; generalize World.setRow _ _ #[.string deflN, .func (.func 53) #[] #[], .func (.func 54) #[.int .i64 0] #[]] = W5 at tb HB3 ⊢; have e1 := blk_cell tb 1) | (go_at_call 53; (with_reducible refine (KO.out _).mono ?_); rintro e w6 ⟨rfl, hb6⟩))
              go_roundw
              case rel => exact ⟨m, (m : Int) - 1, _, by omega, rfl, rfl, ⟨rfl⟩, ⟨by rw [HDR.out]; show _ = ON (kn nm) (foldOn ON (l.drop (m + 1)) p1); rw [← HKK.out, ← HX.out]⟩, ⟨by rw [HPW.out, Nat.mul_assoc]; have := HS.out; have := HSZ.out; omega⟩, ⟨HB3.out.trans (hb6.mono HB3.out.size)⟩⟩
              case measure => simp [intOf]
      · rw [if_neg hpz] at hr
        have t0 : (pe != 0) = true := bne_iff_ne.2 hpz
        subst hr
        dsimp only
        go_enter Tryz.func17, Tryz.ntmps17
        go_wp2_with (first | (go_at_call 19; (with_reducible refine (KC.out _ hl).mono ?_); rintro e w1 ⟨rfl, hb1⟩) | (go_at_call 25; (with_reducible refine (KP.out _).mono ?_); rintro e w1' ⟨rfl, hbp⟩))
        go_returns
        exact ⟨rfl, hb1.trans (hbp.mono hb1.size)⟩
    · have q0 : decide ((0 : Int) < c) = false := decide_eq_false hc0
      rw [if_neg hc0] at hr
      subst hr
      clear hP2 LOOP
      obtain ⟨R, hR⟩ : ∃ R, R = foldOn ON l s := ⟨_, rfl⟩
      rw [← hR]
      have HR := Aside0.mk hR
      clear hR
      dsimp only
      go_enter Tryz.func17, Tryz.ntmps17
      go_wp2_with (first | (go_at_call 19; (with_reducible refine (KC.out _ hl).mono ?_); rintro e w1 ⟨rfl, hb1⟩))
      go_loopw [2, 11] (fun v2 v11 wr => ∃ (i : Nat) (z : Int) (x : ByteArray), i ≤ n ∧ v11 = .int .i64 z ∧ v2 = .string x ∧ Aside0 (z = (i : Int) - 1) ∧ Aside0 (x = foldOn ON (l.drop i) s) ∧ Aside0 (x.size + 20 ≤ 2 ^ (n - i) * (s.size + 20)) ∧ Aside0 (Below w.heap.size w wr)) (fun _ v11 _ => (intOf v11 + 1).toNat)
      case atStart => exact ⟨n, (n : Int) - 1, s, Nat.le_refl _, by rw [w64 (by omega) (by have := HN.out; omega)], rfl, ⟨rfl⟩, ⟨by rw [HN.out, List.drop_length]; rfl⟩, ⟨by rw [Nat.sub_self]; omega⟩, ⟨hb1⟩⟩
      case round =>
        obtain ⟨i, z, x, hi, rfl, rfl, HZ, HX, HS, HB⟩ := hrel
        rcases Nat.eq_zero_or_pos i with rfl | hpos
        · have hz : z = -1 := by rw [HZ.out]; rfl
          subst hz
          have hx : x = R := by rw [HX.out, HR.out, List.drop_zero]
          subst hx
          go_wp2_with fail
          go_returns
          exact ⟨rfl, HB.out⟩
        · obtain ⟨m, rfl⟩ : ∃ m, i = m + 1 := ⟨i - 1, by omega⟩
          have hz : z = (m : Int) := by rw [HZ.out]; omega
          subst hz
          have r1 : decide ((0 : Int) ≤ (m : Int)) = true := decide_eq_true (by omega)
          have hm : m < n := by omega
          have hml : m < l.length := by have := HN.out; omega
          obtain ⟨ad, rfl, hcl⟩ := (hl.below HB.out) m hml
          have hk0 := hkn m hml
          have hkK := hK m hml
          have hdr := drop_getD hml
          obtain ⟨nm, hnm⟩ : ∃ nm, nm = l.getD m ⟨#[]⟩ := ⟨_, rfl⟩
          rw [← hnm] at hcl hk0 hkK hdr
          have KF := Aside0.mk (fun W => find_calls nm 0 W)
          have hle := kn_le nm
          have HDR := Aside0.mk hdr
          have hxs : x.size ≤ 60000 := by have := HS.out; have := pow_le s.size (n - (m + 1)) (by have := HN.out; omega); omega
          have HSZ := Aside0.mk (OK.sz (kn nm) x hkK hxs)
          have hpw : 2 ^ (n - m) = 2 * 2 ^ (n - (m + 1)) := by rw [show n - m = n - (m + 1) + 1 by omega, Nat.pow_succ]; omega
          have HPW := Aside0.mk hpw
          clear hnm hdr hpw
          obtain ⟨k, hk⟩ : ∃ k, k = kn nm := ⟨_, rfl⟩
          rw [← hk] at KF hk0 hkK hle HSZ
          have HKK := Aside0.mk hk
          clear hk
          rcases (by omega : k = 1 ∨ k = 2 ∨ k = 3) with rfl | rfl | rfl
          · have KO := Aside0.mk (fun W => OK.c1 hkK x W hxs)
            go_wp2_with (first | (go_at_call 26; (with_reducible refine (KF.out _).mono ?_); rintro e w2 ⟨rfl, hb2⟩; have tb0 := heap_alloc_new w2 (.cells #[.string ⟨#[]⟩, .nilFunc, .nilFunc] 51)) | (refine wpList_store_rowTo rfl 51 _ _ rfl rfl w2.heap.size #[.string hexN, .func (.func 49) #[] #[], .func (.func 50) #[] #[]] rfl rfl 51 _ tb0 filtInfo rfl (filt_one _ _ _ _) ?_; have tb := setRow_heap _ _ _ #[.string hexN, .func (.func 49) #[] #[], .func (.func 50) #[] #[]] _ _ tb0; have HB3 := Aside0.mk (below_box (HB.out.trans (hb2.mono HB.out.size)) (.cells #[.string ⟨#[]⟩, .nilFunc, .nilFunc] 51) #[.string hexN, .func (.func 49) #[] #[], .func (.func 50) #[] #[]]); clear tb0 hb2; generalize World.setRow _ _ #[.string hexN, .func (.func 49) #[] #[], .func (.func 50) #[] #[]] = W5 at tb HB3 ⊢; have e1 := blk_cell tb 1) | (go_at_call 49; (with_reducible refine (KO.out _).mono ?_); rintro e w6 ⟨rfl, hb6⟩))
            go_roundw
            case rel => exact ⟨m, (m : Int) - 1, _, by omega, rfl, rfl, ⟨rfl⟩, ⟨by rw [HDR.out]; show _ = ON (kn nm) (foldOn ON (l.drop (m + 1)) s); rw [← HKK.out, ← HX.out]⟩, ⟨by rw [HPW.out, Nat.mul_assoc]; have := HS.out; have := HSZ.out; omega⟩, ⟨HB3.out.trans (hb6.mono HB3.out.size)⟩⟩
            case measure => simp [intOf]
          · have KO := Aside0.mk (fun W => OK.c2 hkK x W hxs)
            go_wp2_with (first | (go_at_call 26; (with_reducible refine (KF.out _).mono ?_); rintro e w2 ⟨rfl, hb2⟩; have tb0 := heap_alloc_new w2 (.cells #[.string ⟨#[]⟩, .nilFunc, .nilFunc] 51)) | (refine wpList_store_rowTo rfl 51 _ _ rfl rfl w2.heap.size #[.string runsN, .func (.func 51) #[] #[], .func (.func 52) #[.int .i64 0] #[]] rfl rfl 51 _ tb0 filtInfo rfl (filt_one _ _ _ _) ?_; have tb := setRow_heap _ _ _ #[.string runsN, .func (.func 51) #[] #[], .func (.func 52) #[.int .i64 0] #[]] _ _ tb0; have HB3 := Aside0.mk (below_box (HB.out.trans (hb2.mono HB.out.size)) (.cells #[.string ⟨#[]⟩, .nilFunc, .nilFunc] 51) #[.string runsN, .func (.func 51) #[] #[], .func (.func 52) #[.int .i64 0] #[]]); clear tb0 hb2; generalize World.setRow _ _ #[.string runsN, .func (.func 51) #[] #[], .func (.func 52) #[.int .i64 0] #[]] = W5 at tb HB3 ⊢; have e1 := blk_cell tb 1) | (go_at_call 51; (with_reducible refine (KO.out _).mono ?_); rintro e w6 ⟨rfl, hb6⟩))
            go_roundw
            case rel => exact ⟨m, (m : Int) - 1, _, by omega, rfl, rfl, ⟨rfl⟩, ⟨by rw [HDR.out]; show _ = ON (kn nm) (foldOn ON (l.drop (m + 1)) s); rw [← HKK.out, ← HX.out]⟩, ⟨by rw [HPW.out, Nat.mul_assoc]; have := HS.out; have := HSZ.out; omega⟩, ⟨HB3.out.trans (hb6.mono HB3.out.size)⟩⟩
            case measure => simp [intOf]
          · have KO := Aside0.mk (fun W => OK.c3 hkK x W hxs)
            go_wp2_with (first | (go_at_call 26; (with_reducible refine (KF.out _).mono ?_); rintro e w2 ⟨rfl, hb2⟩; have tb0 := heap_alloc_new w2 (.cells #[.string ⟨#[]⟩, .nilFunc, .nilFunc] 51)) | (refine wpList_store_rowTo rfl 51 _ _ rfl rfl w2.heap.size #[.string deflN, .func (.func 53) #[] #[], .func (.func 54) #[.int .i64 0] #[]] rfl rfl 51 _ tb0 filtInfo rfl (filt_one _ _ _ _) ?_; have tb := setRow_heap _ _ _ #[.string deflN, .func (.func 53) #[] #[], .func (.func 54) #[.int .i64 0] #[]] _ _ tb0; have HB3 := Aside0.mk (below_box (HB.out.trans (hb2.mono HB.out.size)) (.cells #[.string ⟨#[]⟩, .nilFunc, .nilFunc] 51) #[.string deflN, .func (.func 53) #[] #[], .func (.func 54) #[.int .i64 0] #[]]); clear tb0 hb2; generalize World.setRow _ _ #[.string deflN, .func (.func 53) #[] #[], .func (.func 54) #[.int .i64 0] #[]] = W5 at tb HB3 ⊢; have e1 := blk_cell tb 1) | (go_at_call 53; (with_reducible refine (KO.out _).mono ?_); rintro e w6 ⟨rfl, hb6⟩))
            go_roundw
            case rel => exact ⟨m, (m : Int) - 1, _, by omega, rfl, rfl, ⟨rfl⟩, ⟨by rw [HDR.out]; show _ = ON (kn nm) (foldOn ON (l.drop (m + 1)) s); rw [← HKK.out, ← HX.out]⟩, ⟨by rw [HPW.out, Nat.mul_assoc]; have := HS.out; have := HSZ.out; omega⟩, ⟨HB3.out.trans (hb6.mono HB3.out.size)⟩⟩
            case measure => simp [intOf]
  · have hr : encF ON PE l c s = (⟨#[]⟩, chkF l c) := by unfold encF; rw [if_neg hc]
    rw [hr]
    generalize chkF l c = k at *
    have t0 : (k != 0) = true := bne_iff_ne.2 hc
    clear hr hP
    go_enter Tryz.func17, Tryz.ntmps17
    go_wp2_with (first | (go_at_call 19; (with_reducible refine (KC.out _ hl).mono ?_); rintro e w1 ⟨rfl, hb1⟩))
    go_returns
    exact ⟨rfl, hb1⟩
end Go.Proofs.YtghoifkaikddlaaGreat.Hand
