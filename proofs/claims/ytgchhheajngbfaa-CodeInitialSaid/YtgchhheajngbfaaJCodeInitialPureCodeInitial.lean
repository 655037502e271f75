/- For the first m signs, in ascending order, with k lit tubes the shadow has exactly the number of signs that Cascade of m and k returns: for every number of tubes, every k and every m (at most 200). -/
import Derived.Test.YtgchhheajngbfaaJCodeInitial1
import Derived.Test.YtgchhheajngbfaaJCodeInitial2
import Derived.Test.YtgchhheajngbfaaJB2
set_option linter.unusedSimpArgs false
set_option linter.unusedVariables false
namespace Go.Proofs.Ytgchhheajngbfaa.Pure
open Go.Lib Go.RowKit Go.Proofs.YtgchhheajngbfaaW.PrintWords Go.Proofs.YtgchhheajngbfaaW.PrintMore Go.Proofs.Ytgchhheajngbfaa.Kit Go.Proofs.Ytgchhheajngbfaa.P

theorem sgOk_nodup (n : Int) : ∀ (l seen : List Int), (∀ x, x ∈ l → sgIn n x = true) → l.Nodup → (∀ x, x ∈ l → x ∉ seen) → sgOk n seen l = true := by
  intro l
  induction l with
  | nil => intro seen _ _ _; rfl
  | cons x xs ih =>
    intro seen h1 h2 h3
    obtain ⟨h4, h5⟩ := List.nodup_cons.1 h2
    have h6 : seen.contains x = false := by
      rw [Bool.eq_false_iff]
      intro h
      exact h3 x List.mem_cons_self (List.contains_iff_mem.1 h)
    unfold sgOk
    rw [if_pos (h1 x List.mem_cons_self), h6, if_neg (by decide)]
    refine ih _ (fun y hy => h1 y (List.mem_cons_of_mem _ hy)) h5 (fun y hy => ?_)
    rw [List.mem_append, List.mem_singleton]
    rintro (h | rfl)
    · exact h3 y (List.mem_cons_of_mem _ hy) h
    · exact h4 hy
theorem sgs_signs {n k s : Nat} (h1 : 1 ≤ n) (h2 : n ≤ 12) (hs : s ≤ 2 ^ n) (hl : (sgs k s).length ≤ 200) : signsN (n : Int) (intsN (sgs k s)) = 0 := by
  unfold signsN
  rw [if_pos (by omega), intsN_len, if_neg (by omega), if_pos]
  refine sgOk_nodup _ _ _ (fun x hx => ?_) ?_ (by simp)
  · unfold intsN at hx
    obtain ⟨d, hd, rfl⟩ := List.mem_map.1 hx
    have := List.mem_range.1 (List.mem_filter.1 hd).1
    unfold sgIn
    rw [Int.toNat_natCast]
    exact decide_eq_true ⟨by omega, by omega⟩
  · unfold intsN List.Nodup
    rw [List.pairwise_map]
    exact (List.pairwise_lt_range.filter _).imp (fun h e => by omega)
theorem pow12 {n : Nat} (h : n ≤ 12) : 2 ^ n ≤ 4096 := by
  have : 2 ^ n ≤ 2 ^ 12 := Nat.pow_le_pow_right (by decide) h
  simpa using this
theorem init_end {n k m s : Nat} (h1 : 1 ≤ n) (h2 : n ≤ 12) (hk : 1 ≤ k) (hkn : k ≤ n) (hm : 1 ≤ m) (hm2 : m ≤ 200) (hs : s ≤ 2 ^ n) (hl : (sgs k s).length = m) :
    Ev (fun r => neonwrightlaw03_CodeInitial.j1 r (n : Int) (k : Int) (m : Int) (intsN (sgs k s)) (s : Int) false) true := by
  have hp := pow12 h2
  have hsg := shadow_ev (n : Int) (sgs k s) (sgs_signs h1 h2 hs (by omega)) (fun x hx => by have := List.mem_range.1 (List.mem_filter.1 hx).1; omega)
  have hca := casc_ev m k hm (by omega) hk (by omega)
  have e1 : sgs k s = (sgs k 4096).take m := by rw [← hl]; exact sgs_pre (by omega)
  have hc : m ≤ (sgs k 4096).length := by
    have := congrArg List.length e1
    rw [hl, List.length_take] at this
    omega
  have hlen := first_shadow (k := k) (m := m) hk (by omega) hm hm2 hc
  rw [← e1] at hlen
  refine Ev.step (f := fun r => (code_Shadow.f r (n : Int) (intsN (sgs k s))).bind fun bt339 => ((code_Cascade.f r (m : Int) (k : Int)).bind fun bt343 => (if bt339.2 = 0 then (if bt343.2.2 = 0 then (if (bt339.1.length : Int) = bt343.2.1 then ((neonwrightlaw03_alive.f r).bind fun t348 => (some t348)) else (some false)) else (some false)) else (some false)))) (fun r => ?_) (Ev.bnd hsg (Ev.bnd hca (Ev.pos rfl (Ev.pos rfl (Ev.pos ?_ (Ev.bnd alive_ev (Ev.now true)))))))
  · simp only [neonwrightlaw03_CodeInitial.j1]
    rw [if_neg (by decide)]
  · show ((shadowL (sgs k s)).length : Int) = ((casc k m).2 : Int)
    rw [hlen]
theorem init_l0 {n k m : Nat} (h1 : 1 ≤ n) (h2 : n ≤ 12) (hk : 1 ≤ k) (hkn : k ≤ n) (hm : 1 ≤ m) (hm2 : m ≤ 200) (hmb : m ≤ binom n k) :
    ∀ d s, 2 ^ n - s = d → s ≤ 2 ^ n → (sgs k s).length ≤ m → Ev (fun r => neonwrightlaw03_CodeInitial.l0 r (n : Int) (k : Int) (m : Int) (intsN (sgs k s)) (s : Int)) true := by
  have hp := pow12 h2
  intro d
  induction d with
  | zero =>
    intro s hd hs hl
    obtain rfl : s = 2 ^ n := by omega
    have hc := cnt_at (n := n) (k := k) h2 hkn
    have he := init_end h1 h2 hk hkn hm hm2 (Nat.le_refl (2 ^ n)) (by omega : (sgs k (2 ^ n)).length = m)
    refine Ev.step (fun r => ?_) he
    simp only [neonwrightlaw03_CodeInitial.l0]
    rw [if_pos (by omega), shl1n (by omega), if_neg (by omega)]
  | succ d ih =>
    intro s hd hs hl
    have hsl : s < 2 ^ n := by omega
    by_cases hlt : (sgs k s).length < m
    · have hlit := lit_ev s 12 (by omega) (by omega)
      have hones : onesCount s = popAux 12 s := popAux_fuel 12 64 s (by omega) (by omega)
      rw [hones] at hlit
      have hss := sgs_succ k s
      have hnext : Ev (fun r => neonwrightlaw03_CodeInitial.l0 r (n : Int) (k : Int) (m : Int) (intsN (sgs k (s + 1))) ((s + 1 : Nat) : Int)) true := by
        refine ih (s + 1) (by omega) (by omega) ?_
        rw [hss, List.length_append]
        split
        · rw [List.length_singleton]; omega
        · rw [List.length_nil]; omega
      have hj : Ev (fun r => neonwrightlaw03_CodeInitial.j1 r (n : Int) (k : Int) (m : Int) (intsN (sgs k s)) (s : Int) true) true := by
        refine Ev.step (f := fun r => (neonwrightref03_Lit.f r (s : Int)).bind fun t335 => (if t335 = (k : Int) then (if (intsN (sgs k s)).length < 17592186044416 then (neonwrightlaw03_CodeInitial.l0 r (n : Int) (k : Int) (m : Int) ((intsN (sgs k s)) ++ [(s : Int)]) (wrap64 ((s : Int) + 1))) else (none)) else (neonwrightlaw03_CodeInitial.l0 r (n : Int) (k : Int) (m : Int) (intsN (sgs k s)) (wrap64 ((s : Int) + 1))))) (fun r => ?_) (Ev.bnd hlit ?_)
        · simp only [neonwrightlaw03_CodeInitial.j1]
          rw [if_pos (by trivial)]
        · rw [w64 (x := (s : Int) + 1) (by omega) (by omega), show (s : Int) + 1 = ((s + 1 : Nat) : Int) from by omega]
          by_cases hk2 : popAux 12 s = k
          · refine Ev.pos (by omega) (Ev.pos (by rw [intsN_len]; omega) ?_)
            rw [hss, if_pos hk2, intsN_app] at hnext
            exact hnext
          · refine Ev.neg (by omega) ?_
            rw [hss, if_neg hk2, List.append_nil] at hnext
            exact hnext
      refine Ev.step (fun r => ?_) hj
      simp only [neonwrightlaw03_CodeInitial.l0]
      rw [if_pos (by omega), shl1n (by omega), if_pos (by omega), decide_eq_true (by rw [intsN_len]; omega)]
    · have he := init_end h1 h2 hk hkn hm hm2 hs (by omega : (sgs k s).length = m)
      refine Ev.step (fun r => ?_) he
      simp only [neonwrightlaw03_CodeInitial.l0]
      rw [if_pos (by omega), shl1n (by omega), if_pos (by omega), decide_eq_false (by rw [intsN_len]; omega)]
theorem bounds_u8 {a : Int} (h : (Lit.int .u8 a).wf = true) : 0 ≤ a ∧ a ≤ 255 := by
  have hmin : IntKind.u8.min = 0 := rfl
  have hmax : IntKind.u8.max = 255 := rfl
  simp only [Lit.wf, Bool.and_eq_true, decide_eq_true_eq] at h
  omega
theorem bounds_u16 {a : Int} (h : (Lit.int .u16 a).wf = true) : 0 ≤ a ∧ a ≤ 65535 := by
  have hmin : IntKind.u16.min = 0 := rfl
  have hmax : IntKind.u16.max = 65535 := rfl
  simp only [Lit.wf, Bool.and_eq_true, decide_eq_true_eq] at h
  omega
theorem CodeInitial : neonwrightlaw03_CodeInitial.Pure := by
  intro a b c ha hb hc
  have ha := bounds_u8 ha
  have hb := bounds_u8 hb
  have hc := bounds_u16 hc
  obtain ⟨a, rfl⟩ : ∃ m : Nat, a = m := ⟨a.toNat, by omega⟩
  obtain ⟨b, rfl⟩ : ∃ m : Nat, b = m := ⟨b.toNat, by omega⟩
  obtain ⟨c, rfl⟩ : ∃ m : Nat, c = m := ⟨c.toNat, by omega⟩
  refine Ev.rounds (g := fun r => neonwrightlaw03_CodeInitial.f r (a : Int) (b : Int) (c : Int)) ?_
  obtain ⟨n, hn⟩ : ∃ n, 1 + a % 12 = n := ⟨_, rfl⟩
  have hn1 : 1 ≤ n ∧ n ≤ 12 := by omega
  have e1 : ∀ _ : Unit, wrap64 (1 + wrap64 (Int.tmod (a : Int) 12)) = (n : Int) := by
    intro _
    rw [show (12 : Int) = ((12 : Nat) : Int) from rfl, tmodn, w64n _ (by omega), w64 (by omega) (by omega)]
    omega
  obtain ⟨k, hk⟩ : ∃ k, 1 + b % n = k := ⟨_, rfl⟩
  have hbm : b % n < n := Nat.mod_lt _ (by omega)
  have hk1 : 1 ≤ k ∧ k ≤ n := by omega
  have e2 : ∀ _ : Unit, wrap64 (1 + Int.tmod (wrap64 (b : Int)) (n : Int)) = (k : Int) := by
    intro _
    rw [w64n _ (by omega), tmodn, w64 (by omega) (by omega)]
    omega
  have hbin : ∀ i, binom n i ≤ 2704156 ∨ 24 < i := fun i => by
    by_cases h : i ≤ 24
    · exact Or.inl (binom_24 ⟨n, by omega⟩ ⟨i, by omega⟩)
    · exact Or.inr (by omega)
  have hch := rchoose_ev n k (fun i hi => by
    rcases hbin i with h | h
    · have := Nat.mul_le_mul h (show n ≤ 12 from hn1.2)
      omega
    · omega) (by omega)
  have hbp := binom_pos n k hk1.2
  obtain ⟨q, hq⟩ : ∃ q, min (binom n k) 200 = q := ⟨_, rfl⟩
  have hq1 : 1 ≤ q ∧ q ≤ 200 ∧ q ≤ binom n k := by omega
  have e3 : ∀ _ : Unit, mn ((binom n k : Nat) : Int) 200 = (q : Int) := by
    intro _
    have := mn_nat (binom n k) 200
    rw [hq] at this
    exact this
  obtain ⟨m, hm⟩ : ∃ m, 1 + c % q = m := ⟨_, rfl⟩
  have hcm : c % q < q := Nat.mod_lt _ (by omega)
  have e4 : ∀ _ : Unit, wrap64 (1 + Int.tmod (wrap64 (c : Int)) (q : Int)) = (m : Int) := by
    intro _
    rw [w64n _ (by omega), tmodn, w64 (by omega) (by omega)]
    omega
  have h0 := init_l0 (n := n) (k := k) (m := m) hn1.1 hn1.2 hk1.1 hk1.2 (by omega) (by omega) (by omega) (2 ^ n) 0 (Nat.sub_zero _) (Nat.zero_le _) (by unfold sgs; simp)
  refine Ev.congr (f := fun r => (neonwrightref03_Choose.f r (n : Int) (k : Int)).bind fun t334 => (if (mn t334 200) = 0 then (none) else (neonwrightlaw03_CodeInitial.l0 r (n : Int) (k : Int) (wrap64 (1 + (Int.tmod (wrap64 (c : Int)) (mn t334 200)))) ([] : List Int) 0))) (fun r => ?_) (Ev.bnd hch ?_)
  · show neonwrightlaw03_CodeInitial.f r (a : Int) (b : Int) (c : Int) = _
    unfold neonwrightlaw03_CodeInitial.f
    rw [e1 (), if_neg (by omega), e2 ()]
  · rw [e3 ()]
    refine Ev.neg (by omega) ?_
    rw [e4 ()]
    exact h0
end Go.Proofs.Ytgchhheajngbfaa.Pure
