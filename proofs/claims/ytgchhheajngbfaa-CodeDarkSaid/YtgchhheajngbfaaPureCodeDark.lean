/- No code word of Berger covers another one; Decode knows a code word and gives back its sign, and tells that it is none when tubes went dark: for every number of tubes, every two signs, every set of dark tubes. -/
import Derived.Test.YtgchhheajngbfaaPf5
import Derived.Test.YtgchhheajngbfaaBerger
import Derived.Test.YtgchhheajngbfaaCover
import Derived.Test.YtgchhheajngbfaaAlive
set_option linter.unusedSimpArgs false
set_option linter.unusedVariables false
namespace Go.Proofs.Ytgchhheajngbfaa.Pure
open Go.RowKit Go.Proofs.YtgchhheajngbfaaW.PrintWords Go.Proofs.YtgchhheajngbfaaW.PrintMore Go.Proofs.Ytgchhheajngbfaa.Kit Go.Proofs.Ytgchhheajngbfaa.P Go.Lib

theorem bitLen_up : ∀ n : Fin 13, n.val < 2 ^ Lib.bitLen n.val := by decide +kernel
/-- A code word that is covered by a code word is that one. -/
theorem word_cover {n s t : Nat} (h2 : n ≤ 12) (hs : s < 2 ^ n) (ht : t < 2 ^ n) (h : wordN n s &&& wordN n t = wordN n t) : s = t := by
  unfold wordN at h
  rw [and_parts hs ht] at h
  have hp := Nat.two_pow_pos n
  have h0 : s &&& t < 2 ^ n := Nat.and_lt_two_pow _ ht
  have e1 : s &&& t = t := by
    have := congrArg (· % 2 ^ n) h
    simp only [Nat.add_mul_mod_self_right, Nat.mod_eq_of_lt h0, Nat.mod_eq_of_lt ht] at this
    exact this
  have e2 : (n - onesCount s) &&& (n - onesCount t) = n - onesCount t := by
    have := congrArg (· / 2 ^ n) h
    simp only [Nat.add_mul_div_right _ _ hp, Nat.div_eq_of_lt h0, Nat.div_eq_of_lt ht, Nat.zero_add] at this
    exact this
  have l1 := cover_le e2
  have l2 := ones_cover e1
  have l3 := ones_lt hs
  have l4 := ones_lt ht
  have h64 : ∀ x, x < 2 ^ n → x < 2 ^ 64 := fun x hx => Nat.lt_of_lt_of_le hx (Nat.pow_le_pow_right (by decide) (by omega))
  exact (ones_cover_eq e1 (h64 s hs) (h64 t ht) (by omega)).symm
theorem word_bound {n s : Nat} (h1 : 1 ≤ n) (h2 : n ≤ 12) (hs : s < 2 ^ n) : wordN n s < 2 ^ (n + Lib.bitLen n) ∧ wordN n s % 2 ^ n = s := by
  have hp := Nat.two_pow_pos n
  have hb := bitLen_up ⟨n, by omega⟩
  simp only at hb
  constructor
  · unfold wordN
    have : (n - onesCount s + 1) * 2 ^ n ≤ 2 ^ Lib.bitLen n * 2 ^ n := Nat.mul_le_mul_right _ (by omega)
    rw [Nat.pow_add, Nat.mul_comm (2 ^ n)]
    rw [Nat.add_mul] at this
    omega
  · unfold wordN
    rw [Nat.add_mul_mod_self_right, Nat.mod_eq_of_lt hs]

theorem covers_f (x y : Nat) (hx : x < 9223372036854775808) (hy : y < 9223372036854775808) : neonwrightref03_Covers.f (x : Int) (y : Int) = some (decide (x &&& y = y)) := by
  unfold neonwrightref03_Covers.f
  rw [and64 _ _ hx hy]
  congr 1
  rw [Bool.eq_iff_iff]
  simp
  omega
theorem i64w (x : Int) (h0 : 0 ≤ x) (h1 : x ≤ 65535) : wrap64 x = x := w64 (by omega) (by omega)

theorem dark_j1 {n s d : Nat} (h1 : 1 ≤ n) (h2 : n ≤ 12) (hs : s < 2 ^ n) (hd : d ≤ 65535) : Ev (fun k => neonwrightlaw03_CodeDark.j1 k (d : Int) (n : Int) (wordN n s : Int) false) true := by
  obtain ⟨l1, l2, l3⟩ := wordN_lt h2 hs
  have l1' : wordN n s < 1048576 := l1
  obtain ⟨b1, b2⟩ := word_bound h1 h2 hs
  have hp := Nat.two_pow_pos n
  have ew : wrap64 (d : Int) = (d : Int) := w64 (by omega) (by omega)
  have ea : Go.bits .andNot .i64 (wordN n s : Int) (wrap64 (d : Int)) = ((wordN n s ^^^ (wordN n s &&& d) : Nat) : Int) := by rw [ew]; exact andnot64 _ _ (by omega) (by omega)
  have hc := sub_cover (wordN n s) d
  generalize wordN n s ^^^ (wordN n s &&& d) = r at ea hc
  have hr : r ≤ wordN n s := cover_le hc
  have hdec := decode_t h1 h2 (r := r) (by omega)
  have hrm : r % 2 ^ n < 2 ^ n := Nat.mod_lt _ hp
  have hb : decide (wordN n (r % 2 ^ n) = r) = decide (r = wordN n s) := by
    by_cases e : r = wordN n s
    · rw [e, b2]
    · rw [decide_eq_false e]
      refine decide_eq_false (fun e2 => e ?_)
      have h3 : wordN n s &&& wordN n (r % 2 ^ n) = wordN n (r % 2 ^ n) := by rw [e2]; exact hc
      rw [← e2, ← word_cover h2 hs hrm h3]
  refine Ev.step (f := fun k => (code_Decode.f (n : Int) (r : Int)).bind fun bt218 => (if bt218.2.2 = 0 then (if 0 ≤ (n : Int) then (if ((2 ^ n : Nat) : Int) = 0 then (none) else (if bt218.1 = ((r % 2 ^ n : Nat) : Int) then (if (bt218.2.1 == ((r : Int) == (wordN n s : Int))) = true then ((neonwrightlaw03_alive.f k).bind fun t221 => (some t221)) else (some false)) else (some false))) else (none)) else (some false))) (fun k => ?_) ?_
  · simp only [neonwrightlaw03_CodeDark.j1]
    rw [ea, shl1n (by omega), tmodn]
    rfl
  · rw [hdec]
    refine Ev.sbind (Ev.pos rfl (Ev.pos (by omega) (Ev.neg (by omega) (Ev.pos rfl (Ev.pos ?_ (Ev.bnd alive_ev (Ev.now true)))))))
    rw [hb]
    by_cases e : r = wordN n s
    · rw [e]; simp
    · rw [decide_eq_false e]
      simp
      omega
theorem dark_j0 {n s d : Nat} (h1 : 1 ≤ n) (h2 : n ≤ 12) (hs : s < 2 ^ n) (hd : d ≤ 65535) : Ev (fun k => neonwrightlaw03_CodeDark.j0 k (d : Int) (n : Int) (s : Int) (wordN n s : Int) false) true := by
  obtain ⟨b1, b2⟩ := word_bound h1 h2 hs
  have hdec := decode_t h1 h2 b1
  rw [b2, decide_eq_true rfl] at hdec
  refine Ev.step (f := fun k => (code_Decode.f (n : Int) (wordN n s : Int)).bind fun bt215 => (if bt215.2.2 = 0 then (if bt215.2.1 = true then (neonwrightlaw03_CodeDark.j1 k (d : Int) (n : Int) (wordN n s : Int) (bt215.1 != (s : Int))) else (neonwrightlaw03_CodeDark.j1 k (d : Int) (n : Int) (wordN n s : Int) true)) else (neonwrightlaw03_CodeDark.j1 k (d : Int) (n : Int) (wordN n s : Int) true))) (fun k => ?_) ?_
  · simp only [neonwrightlaw03_CodeDark.j0]
    rfl
  · rw [hdec]
    refine Ev.sbind (Ev.pos rfl (Ev.pos rfl ?_))
    simp only [bne_self_eq_false]
    exact dark_j1 h1 h2 hs hd

theorem bounds_u8 {a : Int} (h : (Lit.int .u8 a).wf = true) : 0 ≤ a ∧ a ≤ 255 := by
  have hmin : IntKind.u8.min = 0 := rfl
  have hmax : IntKind.u8.max = 255 := rfl
  simp only [Lit.wf, Bool.and_eq_true, decide_eq_true_eq] at h
  omega
theorem bounds_u16 {a : Int} (h : (Lit.int .u16 a).wf = true) : 0 ≤ a ∧ a ≤ 65535 := by
  have hmin : IntKind.u16.min = 0 := rfl
  have hmax : IntKind.u16.max = 65535 := rfl
  simp only [Lit.wf, Bool.and_eq_true, decide_eq_true_eq] at h
  omega
theorem CodeDark : neonwrightlaw03_CodeDark.Pure := by
  intro a b c d ha hb hc hd
  obtain ⟨ha0, ha1⟩ := bounds_u8 ha
  obtain ⟨hb0, hb1⟩ := bounds_u16 hb
  obtain ⟨hc0, hc1⟩ := bounds_u16 hc
  obtain ⟨hd0, hd1⟩ := bounds_u16 hd
  obtain ⟨a, rfl⟩ := Int.eq_ofNat_of_zero_le ha0
  obtain ⟨b, rfl⟩ := Int.eq_ofNat_of_zero_le hb0
  obtain ⟨c, rfl⟩ := Int.eq_ofNat_of_zero_le hc0
  obtain ⟨d, rfl⟩ := Int.eq_ofNat_of_zero_le hd0
  refine Ev.rounds (g := fun k => neonwrightlaw03_CodeDark.f k (a : Int) (b : Int) (c : Int) (d : Int)) ?_
  have en : wrap64 (1 + wrap64 (Int.tmod (a : Int) 12)) = ((1 + a % 12 : Nat) : Int) := by
    have : Int.tmod (a : Int) 12 = ((a % 12 : Nat) : Int) := tmodn a 12
    rw [this, w64 (x := ((a % 12 : Nat) : Int)) (by omega) (by omega), w64 (by omega) (by omega)]
    omega
  obtain ⟨n, hn⟩ : ∃ n, 1 + a % 12 = n := ⟨_, rfl⟩
  have h1 : 1 ≤ n := by omega
  have h2 : n ≤ 12 := by omega
  rw [hn] at en
  have hp := Nat.two_pow_pos n
  have eb : Int.tmod (wrap64 (b : Int)) (shl .i64 1 (n : Int)) = ((b % 2 ^ n : Nat) : Int) := by rw [w64 (x := (b : Int)) (by omega) (by omega), shl1n (by omega), tmodn]
  have ec : Int.tmod (wrap64 (c : Int)) (shl .i64 1 (n : Int)) = ((c % 2 ^ n : Nat) : Int) := by rw [w64 (x := (c : Int)) (by omega) (by omega), shl1n (by omega), tmodn]
  have hs : b % 2 ^ n < 2 ^ n := Nat.mod_lt _ hp
  have ht : c % 2 ^ n < 2 ^ n := Nat.mod_lt _ hp
  generalize b % 2 ^ n = s at eb hs
  generalize c % 2 ^ n = t at ec ht
  obtain ⟨l1, _, _⟩ := wordN_lt h2 hs
  obtain ⟨l2, _, _⟩ := wordN_lt h2 ht
  have l1' : wordN n s < 1048576 := l1
  have l2' : wordN n t < 1048576 := l2
  have hj := dark_j0 (d := d) h1 h2 hs (by omega)
  unfold neonwrightlaw03_CodeDark.f
  simp only [en, eb, ec]
  refine Ev.pos (by omega) (Ev.neg (by rw [shl1n (by omega)]; omega) ?_)
  rw [berger_t h1 h2 hs, berger_t h1 h2 ht]
  refine Ev.sbind (Ev.sbind (Ev.pos rfl (Ev.pos rfl ?_)))
  by_cases e : s = t
  · refine Ev.pos (by rw [e]) ?_
    rw [← e]
    simp only [bne_self_eq_false]
    exact hj
  · refine Ev.neg (by omega) ?_
    rw [covers_f _ _ (by omega) (by omega), decide_eq_false (fun h => e (word_cover h2 hs ht h))]
    refine Ev.sbind (Ev.neg (by simp) ?_)
    rw [covers_f _ _ (by omega) (by omega), decide_eq_false (fun h => e (word_cover h2 ht hs h).symm)]
    refine Ev.sbind (Ev.neg (by simp) ?_)
    exact hj
end Go.Proofs.Ytgchhheajngbfaa.Pure
