/- Texts of this claim, merged by a program (shake.py): what the last theorems reach of RCirc, Pf97. -/
import Derived.Test.YtelfalicickelaaKB2
import Derived.Test.YtelfalicickelaaKB3
import Derived.Test.YtelfalicickelaaKGateAlike2
import Derived.Test.YtelfalicickelaaKB1
set_option linter.unusedSimpArgs false
set_option linter.unusedVariables false
namespace Go.Proofs.Ytelfalicickelaa.P
open Go.Lib Go.RowKit Go.Proofs.YtelfalicickelaaW.PrintWords Go.Proofs.YtelfalicickelaaW.PrintLast Go.Proofs.YtelfalicickelaaW.PrintMore Go.Proofs.Ytelfalicickelaa.Kit
theorem rcirc_l1 (N : Nat) (ls : List S40) (os : List Int) (hN : N ≤ 6) (hl : ls.length ≤ 16) (ho : os.length ≤ 4) : ∀ (d i k : Nat), os.length - i = d → i ≤ os.length → d < k →
    neonwrightref07_Circuit.l1 k (i : Int) (N : Int) ls os = some (!(os.drop i).any (badL (N + ls.length))) := by
  intro d
  induction d with
  | zero =>
    intro i k hd hi hk
    obtain ⟨k, rfl⟩ : ∃ q, k = q + 1 := ⟨k - 1, by omega⟩
    simp only [neonwrightref07_Circuit.l1]
    rw [if_neg (by omega), List.drop_eq_nil_of_le (by omega)]
    rfl
  | succ d ih =>
    intro i k hd hi hk
    obtain ⟨k, rfl⟩ : ∃ q, k = q + 1 := ⟨k - 1, by omega⟩
    have hil : i < os.length := by omega
    have hw : ∀ _ : Unit, wrap64 ((i : Int) + 1) = ((i + 1 : Nat) : Int) := fun _ => by rw [w64 (by omega) (by omega)]; omega
    have hw2 : ∀ _ : Unit, wrap64 ((N : Int) + (ls.length : Int)) = ((N + ls.length : Nat) : Int) := fun _ => by rw [w64 (by omega) (by omega)]; omega
    simp only [neonwrightref07_Circuit.l1, neonwrightref07_Lines.f, Option.bind_some]
    rw [if_pos (by omega), if_pos (by omega), rd_get _ _ hil, hw2 (), hw (), List.drop_eq_getElem_cons hil, List.any_cons]
    by_cases h1 : os[i] < 0
    · rw [if_pos h1]
      simp [badL, h1]
    · rw [if_neg h1]
      by_cases h2 : os[i] ≥ ((N + ls.length : Nat) : Int)
      · rw [if_pos h2]
        have : badL (N + ls.length) os[i] = true := by unfold badL; rw [decide_eq_true (p := ((N + ls.length : Nat) : Int) ≤ os[i]) h2, Bool.or_true]
        rw [this]; rfl
      · rw [if_neg h2, ih (i + 1) k (by omega) (by omega) (by omega)]
        have : badL (N + ls.length) os[i] = false := by unfold badL; rw [decide_eq_false h1, decide_eq_false (p := ((N + ls.length : Nat) : Int) ≤ os[i]) (by omega)]; rfl
        rw [this, Bool.false_or]
theorem rcirc_l0 (N : Nat) (ls : List S40) (os : List Int) (hN1 : 1 ≤ N) (hN : N ≤ 6) (hl : ls.length ≤ 16) (ho : os.length ≤ 4) : ∀ (d i k : Nat), ls.length - i = d → i ≤ ls.length → d + 6 < k →
    neonwrightref07_Circuit.l0 k (i : Int) (N : Int) ls os = some ((List.range' i d).all (fun j => gateOk N j (ls.getD j z40)) && !os.any (badL (N + ls.length))) := by
  intro d
  induction d with
  | zero =>
    intro i k hd hi hk
    obtain ⟨k, rfl⟩ : ∃ q, k = q + 1 := ⟨k - 1, by omega⟩
    simp only [neonwrightref07_Circuit.l0]
    rw [if_neg (by omega)]
    have := rcirc_l1 N ls os hN hl ho os.length 0 k (by omega) (by omega) (by omega)
    rw [List.drop_zero] at this
    refine this.trans ?_
    rfl
  | succ d ih =>
    intro i k hd hi hk
    obtain ⟨k, rfl⟩ : ∃ q, k = q + 1 := ⟨k - 1, by omega⟩
    have hil : i < ls.length := by omega
    have hw : ∀ _ : Unit, wrap64 ((i : Int) + 1) = ((i + 1 : Nat) : Int) := fun _ => by rw [w64 (by omega) (by omega)]; omega
    have hw2 : ∀ _ : Unit, wrap64 ((N : Int) + (i : Int)) = ((N + i : Nat) : Int) := fun _ => by rw [w64 (by omega) (by omega)]; omega
    have hrd : rd_T40 ls (i : Int) = ls.getD i z40 := by unfold rd_T40; rw [Int.toNat_natCast]
    simp only [neonwrightref07_Circuit.l0]
    rw [if_pos (by omega), if_pos (by omega), hrd, hw2 (), hw (), List.range'_succ, List.all_cons]
    have h1 := ih (i + 1) k (by omega) (by omega) (by omega)
    generalize ls.getD i z40 = s at *
    have hno : gateOk N i s = false → some false = some ((gateOk N i s && (List.range' (i + 1) d).all fun j => gateOk N j (ls.getD j z40)) && !os.any (badL (N + ls.length))) := fun h => by rw [h]; rfl
    have hyes : gateOk N i s = true → neonwrightref07_Circuit.l0 k ((i + 1 : Nat) : Int) (N : Int) ls os = some ((gateOk N i s && (List.range' (i + 1) d).all fun j => gateOk N j (ls.getD j z40)) && !os.any (badL (N + ls.length))) := fun h => by rw [h, Bool.true_and]; exact h1
    have hg : gateOk N i s = decide ((0 ≤ s.f0 ∧ s.f0 ≤ 5) ∧ (0 ≤ s.f1 ∧ s.f1 < ((N + i : Nat) : Int)) ∧ (0 ≤ s.f2 ∧ s.f2 < ((N + i : Nat) : Int)) ∧ (s.f0 = 5 → s.f2 = 0)) := by
      unfold gateOk readsL
      by_cases h5 : s.f0 = 5
      · rw [if_pos h5]
        rw [Bool.eq_iff_iff]
        simp [badL, h5] <;> omega
      · rw [if_neg h5]
        rw [Bool.eq_iff_iff]
        simp [badL, h5] <;> omega
    clear ih h1
    repeat' (split <;> first | (refine hno ?_; rw [hg]; exact decide_eq_false (by omega)) | skip)
    all_goals first
      | (refine hyes ?_; rw [hg]; exact decide_eq_true (by omega))
      | (refine hno ?_; rw [hg]; exact decide_eq_false (by omega))
theorem rCircuit_f (n : Int) (ls : List S40) (os : List Int) (k : Nat) (hk : 40 ≤ k) : neonwrightref07_Circuit.f k n ls os = some (okC n ls os) := by
  obtain ⟨k, rfl⟩ : ∃ q, k = q + 1 := ⟨k - 1, by omega⟩
  have hb : ∀ b, b = true → neonwrightref07_Circuit.j0 (k + 1) b n ls os = some false := fun b h => by simp only [neonwrightref07_Circuit.j0]; rw [if_pos h]
  by_cases hs : 1 ≤ n ∧ n ≤ 6 ∧ ls.length ≤ 16 ∧ 1 ≤ os.length ∧ os.length ≤ 4
  · obtain ⟨N, rfl⟩ := Int.eq_ofNat_of_zero_le (show 0 ≤ n by omega)
    unfold neonwrightref07_Circuit.f okC
    rw [if_neg (by omega), if_neg (by omega), if_neg (by omega), if_neg (by omega), decide_eq_true hs, Bool.true_and, Int.toNat_natCast]
    simp only [neonwrightref07_Circuit.j0]
    rw [if_neg (by simp; omega)]
    refine (rcirc_l0 N ls os (by omega) (by omega) (by omega) (by omega) ls.length 0 k (by omega) (by omega) (by omega)).trans ?_
    unfold gatesOk
    rw [List.range_eq_range']
  · have : okC n ls os = false := by unfold okC; rw [decide_eq_false hs]; rfl
    rw [this]
    unfold neonwrightref07_Circuit.f
    by_cases h1 : n < 1
    · rw [if_pos h1, hb true rfl]
    · rw [if_neg h1]
      by_cases h2 : n > 6
      · rw [if_pos h2, hb true rfl]
      · rw [if_neg h2]
        by_cases h3 : (ls.length : Int) > 16
        · rw [if_pos h3, hb true rfl]
        · rw [if_neg h3]
          by_cases h4 : (os.length : Int) < 1
          · rw [if_pos h4, hb true rfl]
          · rw [if_neg h4, hb _ (decide_eq_true (by omega))]
end Go.Proofs.Ytelfalicickelaa.P
namespace Go.Proofs.Ytelfalicickelaa.P
open Go.RowKit Go.Proofs.YtelfalicickelaaW.PrintWords Go.Proofs.YtelfalicickelaaW.PrintLast Go.Proofs.YtelfalicickelaaW.PrintMore
attribute [local go_sem] max2_int max_two
set_option linter.unusedVariables false
set_option linter.unusedSimpArgs false
def neonwrightref07_gate.f (a0 : Int) (a1 : Int) (a2 : Int) : Option (Int) := if a0 = 0 then (some (Go.bits .and .i64 a1 a2)) else (if a0 = 1 then (some (Go.bits .or .i64 a1 a2)) else (if a0 = 2 then (some (Go.bits .xor .i64 a1 a2)) else (if a0 = 3 then (some (wrap64 (1 - (Go.bits .and .i64 a1 a2)))) else (if a0 = 4 then (some (wrap64 (1 - (Go.bits .or .i64 a1 a2)))) else (some (wrap64 (1 - a1)))))))
set_option maxHeartbeats 8000000 in
set_option maxRecDepth 100000 in
theorem neonwrightref07_gate.calls (a0 : Int) (a1 : Int) (a2 : Int) (r : Int) (w : World) (h : neonwrightref07_gate.f a0 a1 a2 = some r) :
    Calls Try.prog 97 #[.int .i64 a0, .int .i64 a1, .int .i64 a2] w fun e w' => e = .returned (.int .i64 r) ∧ Drawn0 w w' := by
  have H : (if a0 = 0 then (some (Go.bits .and .i64 a1 a2)) else (if a0 = 1 then (some (Go.bits .or .i64 a1 a2)) else (if a0 = 2 then (some (Go.bits .xor .i64 a1 a2)) else (if a0 = 3 then (some (wrap64 (1 - (Go.bits .and .i64 a1 a2)))) else (if a0 = 4 then (some (wrap64 (1 - (Go.bits .or .i64 a1 a2)))) else (some (wrap64 (1 - a1)))))))) = some r := h
  clear h
  by_cases c4 : a0 = 0
  · rw [if_pos c4] at H
    have c4b0 : (a0 == 0) = true := beq_iff_eq.mpr c4
    have c4b1 : (a0 != 0) = false := bne_eq_false_iff_eq.mpr c4
    clear c4
    obtain rfl := Option.some.inj H
    go_enter Try.func97, Try.ntmps97
    go_wp2
    go_ret
    exact ⟨by first | rfl | (simp; done) | (simp [*]; done), by repeat (first | exact Drawn0.refl _ | apply Drawn0.step)⟩
  · rw [if_neg c4] at H
    have c4b0 : (a0 == 0) = false := beq_eq_false_iff_ne.mpr c4
    have c4b1 : (a0 != 0) = true := bne_iff_ne.mpr c4
    by_cases c5 : a0 = 1
    · rw [if_pos c5] at H
      have c5b0 : (a0 == 1) = true := beq_iff_eq.mpr c5
      have c5b1 : (a0 != 1) = false := bne_eq_false_iff_eq.mpr c5
      clear c5
      obtain rfl := Option.some.inj H
      go_enter Try.func97, Try.ntmps97
      go_wp2
      go_ret
      exact ⟨by first | rfl | (simp; done) | (simp [*]; done), by repeat (first | exact Drawn0.refl _ | apply Drawn0.step)⟩
    · rw [if_neg c5] at H
      have c5b0 : (a0 == 1) = false := beq_eq_false_iff_ne.mpr c5
      have c5b1 : (a0 != 1) = true := bne_iff_ne.mpr c5
      by_cases c6 : a0 = 2
      · rw [if_pos c6] at H
        have c6b0 : (a0 == 2) = true := beq_iff_eq.mpr c6
        have c6b1 : (a0 != 2) = false := bne_eq_false_iff_eq.mpr c6
        clear c6
        obtain rfl := Option.some.inj H
        go_enter Try.func97, Try.ntmps97
        go_wp2
        go_ret
        exact ⟨by first | rfl | (simp; done) | (simp [*]; done), by repeat (first | exact Drawn0.refl _ | apply Drawn0.step)⟩
      · rw [if_neg c6] at H
        have c6b0 : (a0 == 2) = false := beq_eq_false_iff_ne.mpr c6
        have c6b1 : (a0 != 2) = true := bne_iff_ne.mpr c6
        by_cases c7 : a0 = 3
        · rw [if_pos c7] at H
          have c7b0 : (a0 == 3) = true := beq_iff_eq.mpr c7
          have c7b1 : (a0 != 3) = false := bne_eq_false_iff_eq.mpr c7
          clear c7
          obtain rfl := Option.some.inj H
          go_enter Try.func97, Try.ntmps97
          go_wp2
          go_ret
          exact ⟨by first | rfl | (simp; done) | (simp [*]; done), by repeat (first | exact Drawn0.refl _ | apply Drawn0.step)⟩
        · rw [if_neg c7] at H
          have c7b0 : (a0 == 3) = false := beq_eq_false_iff_ne.mpr c7
          have c7b1 : (a0 != 3) = true := bne_iff_ne.mpr c7
          by_cases c8 : a0 = 4
          · rw [if_pos c8] at H
            have c8b0 : (a0 == 4) = true := beq_iff_eq.mpr c8
            have c8b1 : (a0 != 4) = false := bne_eq_false_iff_eq.mpr c8
            clear c8
            obtain rfl := Option.some.inj H
            go_enter Try.func97, Try.ntmps97
            go_wp2
            go_ret
            exact ⟨by first | rfl | (simp; done) | (simp [*]; done), by repeat (first | exact Drawn0.refl _ | apply Drawn0.step)⟩
          · rw [if_neg c8] at H
            have c8b0 : (a0 == 4) = false := beq_eq_false_iff_ne.mpr c8
            have c8b1 : (a0 != 4) = true := bne_iff_ne.mpr c8
            obtain rfl := Option.some.inj H
            go_enter Try.func97, Try.ntmps97
            go_wp2
            go_ret
            exact ⟨by first | rfl | (simp; done) | (simp [*]; done), by repeat (first | exact Drawn0.refl _ | apply Drawn0.step)⟩
end Go.Proofs.Ytelfalicickelaa.P
