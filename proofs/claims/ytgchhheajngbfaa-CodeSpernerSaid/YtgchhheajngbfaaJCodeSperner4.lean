/- Several texts of this session in one file, in build order: ChV, Pf33, SpV, HCodeSperner. -/
import Derived.Test.YtgchhheajngbfaaJCodeSperner3
import Derived.Test.YtgchhheajngbfaaJCodeSperner2
import Derived.Test.YtgchhheajngbfaaJCodeSperner1
set_option linter.unusedSimpArgs false
set_option linter.unusedVariables false
namespace Go.Proofs.Ytgchhheajngbfaa.P
open Go.Lib Go.RowKit Go.Proofs.YtgchhheajngbfaaW.PrintWords Go.Proofs.YtgchhheajngbfaaW.PrintLast Go.Proofs.YtgchhheajngbfaaW.PrintMore Go.Proofs.Ytgchhheajngbfaa.Kit

theorem rdL_get (l : List (List Int)) (i : Nat) (h : i < l.length) : rd_L2 l (i : Int) = l[i] := by
  unfold rd_L2
  simp [h]
theorem listsK_l0 (d : List (List Int)) (hl : d.length ≤ 4611686018427387904) (hr : ∀ r ∈ d, r.length ≤ 4611686018427387904) : ∀ m i, d.length - i = m → i ≤ d.length → Ev (fun k => neonwrightlaw03_lists.l0 k d d (i : Int)) true := by
  intro m
  induction m with
  | zero =>
    intro i hm hi
    refine Ev.step (fun k => ?_) (Ev.now true)
    simp only [neonwrightlaw03_lists.l0]
    rw [if_neg (by omega)]
  | succ m ih =>
    intro i hm hi
    have hlt : i < d.length := by omega
    refine Ev.step (f := fun k => (neonwrightlaw03_same.f k d[i] d[i]).bind fun t => if t = true then neonwrightlaw03_lists.l0 k d d ((i + 1 : Nat) : Int) else some false) (fun k => ?_) (Ev.bnd (same_self _ (hr _ (List.getElem_mem hlt))) (Ev.pos rfl (ih (i + 1) (by omega) (by omega))))
    simp only [neonwrightlaw03_lists.l0]
    rw [if_pos (by omega), if_pos (by omega), if_pos (by omega), rdL_get d i hlt, wrap1 (by omega)]
theorem listsK (d : List (List Int)) (hl : d.length ≤ 4611686018427387904) (hr : ∀ r ∈ d, r.length ≤ 4611686018427387904) : ∃ k, neonwrightlaw03_lists.f k d d = some true := by
  refine Ev.rounds ?_
  refine Ev.congr (f := fun k => neonwrightlaw03_lists.l0 k d d ((0 : Nat) : Int)) (fun k => ?_) (listsK_l0 d hl hr d.length 0 (by omega) (by omega))
  unfold neonwrightlaw03_lists.f
  rw [if_pos rfl]
  rfl
def midR (n : Int) : List Int × Int := if 1 ≤ n ∧ n ≤ 12 then (litL (n.toNat / 2) (2 ^ n.toNat), 0) else ([], 2)
theorem mid_val (n : Int) : ∃ l e, code_Middle.f n = some (l, e) ∧ (∃ k, neonwrightref03_Middle.f k n = some (l, e)) ∧ l.length ≤ 4096 := by
  refine ⟨(midR n).1, (midR n).2, mid_f n, Ev.rounds (rmid_ev n), ?_⟩
  unfold midR
  split
  · rename_i h
    exact Nat.le_trans (litL_len _ _) (pow4096 (by omega))
  · exact Nat.zero_le _
theorem chain_len {n s : Nat} (hn : n ≤ 12) : (chI (chainN n s)).length ≤ 13 ∧ 0 < (chI (chainN n s)).length := by
  have h := brs_len s n
  rw [chI_len]
  unfold chainN
  rw [lights_length]
  unfold free
  rw [List.length_append]
  omega
theorem chain_val (n s : Int) : ∃ l e, (∃ k, code_Chain.f k n s = some (l, e)) ∧ (∃ k, neonwrightref03_Chain.f k n s = some (l, e)) ∧ l.length ≤ 13 := by
  refine ⟨(chainR n s).1, (chainR n s).2, Ev.rounds (chainF_ev n s), Ev.rounds (rchainF_ev n s), ?_⟩
  unfold chainR
  split
  · rename_i h
    exact (chain_len (by omega)).1
  · exact Nat.zero_le _
theorem chains_val (n : Int) : ∃ l e, (∃ k, code_Chains.f k n = some (l, e)) ∧ (∃ k, neonwrightref03_Chains.f k n = some (l, e)) ∧ l.length ≤ 4096 ∧ ∀ r ∈ l, 0 < r.length ∧ r.length ≤ 13 := by
  refine ⟨(chainsR n).1, (chainsR n).2, Ev.rounds (chains_ev n), Ev.rounds (rchains_ev n), ?_⟩
  unfold chainsR
  split
  · rename_i h
    refine ⟨Nat.le_trans (chTo_len _ _) (pow4096 (by omega)), fun r hr => ?_⟩
    unfold chTo at hr
    obtain ⟨c, hc, rfl⟩ := List.mem_map.1 hr
    obtain ⟨s, hs, rfl⟩ := List.mem_map.1 hc
    have := chain_len (n := n.toNat) (s := s) (by omega)
    exact ⟨this.2, this.1⟩
  · exact ⟨Nat.zero_le _, fun r hr => by cases hr⟩
end Go.Proofs.Ytgchhheajngbfaa.P

namespace Go.Proofs.Ytgchhheajngbfaa.P
open Go.RowKit Go.Proofs.YtgchhheajngbfaaW.PrintWords Go.Proofs.YtgchhheajngbfaaW.PrintLast Go.Proofs.YtgchhheajngbfaaW.PrintMore
attribute [local go_sem] max2_int min2_int max_two min_two max_three min_three max_four min_four   -- for this text's walks alone
set_option linter.unusedVariables false
set_option linter.unusedSimpArgs false

/-! ### neonwrightref03_Choose: function 33 -/
mutual
def neonwrightref03_Choose.j0 : Nat → Int → Int → Bool → Option (Int)
  | 0, _, _, _ => none
  | k + 1, x0, x1, x13 => if x13 = true then (some 0) else (neonwrightref03_Choose.l0 k x0 x1 1 1)
def neonwrightref03_Choose.l0 : Nat → Int → Int → Int → Int → Option (Int)
  | 0, _, _, _, _ => none
  | k + 1, x0, x1, x5, x6 => if x6 ≤ (mn x1 (wrap64 (x0 - x1))) then (if x6 = 0 then (none) else (neonwrightref03_Choose.l0 k x0 x1 (wrap64 (Int.tdiv (wrap64 (x5 * (wrap64 ((wrap64 (x0 - x6)) + 1)))) x6)) (wrap64 (x6 + 1)))) else (some x5)
end
def neonwrightref03_Choose.f (k : Nat) (a0 : Int) (a1 : Int) : Option (Int) := if a1 < 0 then (neonwrightref03_Choose.j0 k a0 a1 true) else (neonwrightref03_Choose.j0 k a0 a1 (decide (a1 > a0)))
theorem neonwrightref03_Choose.mono_l : ∀ k, (∀ y0 y1 y2, LeO (neonwrightref03_Choose.j0 k y0 y1 y2) (neonwrightref03_Choose.j0 (k + 1) y0 y1 y2)) ∧ (∀ y0 y1 y2 y3, LeO (neonwrightref03_Choose.l0 k y0 y1 y2 y3) (neonwrightref03_Choose.l0 (k + 1) y0 y1 y2 y3))
  | 0 => ⟨fun _ _ _ r h => by simp [neonwrightref03_Choose.j0] at h, fun _ _ _ _ r h => by simp [neonwrightref03_Choose.l0] at h⟩
  | k + 1 => by
    obtain ⟨ih0, ih1⟩ := neonwrightref03_Choose.mono_l k
    refine ⟨?_, ?_⟩
    · intro y0 y1 y2
      unfold neonwrightref03_Choose.j0
      repeat' first
      | (with_reducible exact ih0 _ _ _)
      | (with_reducible exact ih1 _ _ _ _)
      | (with_reducible exact LeO.refl _)
      | (with_reducible exact LeO.none _)
      | (with_reducible refine LeO.ite ?_ ?_)
      | (with_reducible refine LeO.bind ?_ (fun _ => ?_))
      | exact ih0 _ _ _
      | exact ih1 _ _ _ _
      | exact LeO.none _
      | refine LeO.ite ?_ ?_
      | refine LeO.bind ?_ (fun _ => ?_)
    · intro y0 y1 y2 y3
      unfold neonwrightref03_Choose.l0
      repeat' first
      | (with_reducible exact ih0 _ _ _)
      | (with_reducible exact ih1 _ _ _ _)
      | (with_reducible exact LeO.refl _)
      | (with_reducible exact LeO.none _)
      | (with_reducible refine LeO.ite ?_ ?_)
      | (with_reducible refine LeO.bind ?_ (fun _ => ?_))
      | exact ih0 _ _ _
      | exact ih1 _ _ _ _
      | exact LeO.none _
      | refine LeO.ite ?_ ?_
      | refine LeO.bind ?_ (fun _ => ?_)
theorem neonwrightref03_Choose.mono : ∀ a0 a1 k, LeO (neonwrightref03_Choose.f k a0 a1) (neonwrightref03_Choose.f (k + 1) a0 a1) := by
  intro a0 a1 k
  obtain ⟨ih0, ih1⟩ := neonwrightref03_Choose.mono_l k
  unfold neonwrightref03_Choose.f
  repeat' first
      | (with_reducible exact ih0 _ _ _)
      | (with_reducible exact ih1 _ _ _ _)
      | (with_reducible exact LeO.refl _)
      | (with_reducible exact LeO.none _)
      | (with_reducible refine LeO.ite ?_ ?_)
      | (with_reducible refine LeO.bind ?_ (fun _ => ?_))
      | exact ih0 _ _ _
      | exact ih1 _ _ _ _
      | exact LeO.none _
      | refine LeO.ite ?_ ?_
      | refine LeO.bind ?_ (fun _ => ?_)
set_option maxHeartbeats 8000000 in
set_option maxRecDepth 100000 in
theorem neonwrightref03_Choose.calls (k : Nat) (a0 : Int) (a1 : Int) (r : Int) (w : World) (h : neonwrightref03_Choose.f k a0 a1 = some r) :
    Calls Try.prog 33 #[.int .i64 a0, .int .i64 a1] w fun e w' => e = .returned (.int .i64 r) ∧ Below w.heap.size w w' := by
  have HB := Aside0.mk (Below.refl w.heap.size w)
  have H : (if a1 < 0 then (neonwrightref03_Choose.j0 k a0 a1 true) else (neonwrightref03_Choose.j0 k a0 a1 (decide (a1 > a0)))) = some r := h
  clear h
  have HC3 := Aside0.mk H
  clear H
  go_enter Try.func33, Try.ntmps33
  go_upto_region 1 with (fail)
  go_cut [13] (fun v13 wc => ∃ (kq : Nat) (x13_2 : Bool), v13 = .bool x13_2 ∧ Aside0 (neonwrightref03_Choose.j0 kq a0 a1 x13_2 = some r) ∧ Aside0 (kq ≤ k) ∧ Aside0 (Below w.heap.size w wc))
  case first =>
    have H := HC3.out
    clear HC3
    by_cases c4 : a1 < 0
    · rw [if_pos c4] at H
      have c4b0 : decide (a1 < 0) = true := decide_eq_true c4
      clear c4
      (first | rw [c4b0] | (simp only [i64_w, i32_w]; rw [c4b0]) | skip)
      have H' := Aside0.mk H
      clear H
      go_wp2
      go_meet
      case rel => exact ⟨_, (true), (by first | rfl | (simp; done) | (simp [*]; done)), H', ⟨by first | omega | exact Nat.le_refl _⟩, ⟨by repeat (first | (with_reducible first | exact HB.out | apply below_alloc | apply pw_below_drewN | apply below_drew1) | exact HB.out)⟩⟩
    · rw [if_neg c4] at H
      have c4b0 : decide (a1 < 0) = false := decide_eq_false c4
      clear c4
      (first | rw [c4b0] | (simp only [i64_w, i32_w]; rw [c4b0]) | skip)
      have H' := Aside0.mk H
      clear H
      go_wp2
      go_meet
      case rel => exact ⟨_, (decide (a1 > a0)), (by first | rfl | (simp; done) | (simp [*]; done)), H', ⟨by first | omega | exact Nat.le_refl _⟩, ⟨by repeat (first | (with_reducible first | exact HB.out | apply below_alloc | apply pw_below_drewN | apply below_drew1) | exact HB.out)⟩⟩
  case rest =>
    clear HC3
    try clear p2
    try clear c3
    try clear c4
    try clear c4b0
    obtain ⟨kq, x13_2, rfl, HA, HJ2, HB⟩ := hcut
    cases kq with
    | zero => exact absurd HA.out (by simp [neonwrightref03_Choose.j0])
    | succ kj2 =>
      have H := HA.out
      clear HA
      simp only [neonwrightref03_Choose.j0] at H
      by_cases c5 : x13_2 = true
      · subst c5
        have H1 : (some 0) = some r := by rw [if_pos rfl] at H; exact H
        clear H
        have H := H1
        clear H1
        obtain rfl := Option.some.inj H
        go_wp2
        go_ret
        exact ⟨by first | rfl | (simp [errW_none, errW_some] <;> rfl) | (simp [*, errW_none, errW_some] <;> rfl), by repeat (first | (with_reducible first | exact HB.out | apply below_alloc | apply pw_below_drewN | apply below_drew1) | exact HB.out)⟩
      · replace c5 := Bool.eq_false_iff.mpr c5
        subst c5
        have H1 : (neonwrightref03_Choose.l0 kj2 a0 a1 1 1) = some r := by rw [if_neg (show ¬ (false = true) by decide)] at H; exact H
        clear H
        have H := H1
        clear H1
        have H' := Aside0.mk H
        clear H
        go_wp2
        go_loopg [5, 6] kj2 (fun kq v5 v6 w' => ∃ (x5_2 : Int) (x6_2 : Int), v5 = .int .i64 x5_2 ∧ v6 = .int .i64 x6_2 ∧ Aside0 (neonwrightref03_Choose.l0 kq a0 a1 x5_2 x6_2 = some r) ∧ Aside0 (kq ≤ kj2) ∧ Aside0 (Below w.heap.size w w'))
        case atStart => exact ⟨(1), (1), (by first | rfl | (simp; done) | (simp [*]; done)), (by first | rfl | (simp; done) | (simp [*]; done)), H', ⟨Nat.le_refl _⟩, ⟨by repeat (first | (with_reducible first | exact HB.out | apply below_alloc | apply pw_below_drewN | apply below_drew1) | exact HB.out)⟩⟩
        case round =>
          clear H'
          try clear p2
          try clear c3
          try clear c4
          try clear c4b0
          try clear c5
          try clear p2
          obtain ⟨x5_2, x6_2, rfl, rfl, HA, HK2, HB⟩ := hrel
          cases gk with
          | zero => exact absurd HA.out (by simp [neonwrightref03_Choose.l0])
          | succ k2 =>
            have H := HA.out
            clear HA
            simp only [neonwrightref03_Choose.l0] at H
            obtain ⟨ji6, hji6⟩ : ∃ j_ : Int, (mn a1 (wrap64 (a0 - a1))) = j_ := ⟨_, rfl⟩
            replace H : (if x6_2 ≤ (ji6) then (if x6_2 = 0 then (none) else (neonwrightref03_Choose.l0 k2 a0 a1 (wrap64 (Int.tdiv (wrap64 (x5_2 * (wrap64 ((wrap64 (a0 - x6_2)) + 1)))) x6_2)) (wrap64 (x6_2 + 1)))) else (some x5_2)) = some r := by first | (rw [hji6] at H; exact H) | (simp only [hji6] at H ⊢; exact H)
            have hji6_ : (if (wrap64 (a0 - a1)) < a1 then (wrap64 (a0 - a1)) else a1) = ji6 := hji6
            by_cases c7 : x6_2 ≤ (ji6)
            · rw [if_pos c7] at H
              have c7b0 : decide (x6_2 ≤ (ji6)) = true := decide_eq_true c7
              clear c7
              by_cases c8 : x6_2 = 0
              · rw [if_pos c8] at H
                exact absurd H (by simp)
              · rw [if_neg c8] at H
                have c8b0 : (x6_2 == 0) = false := beq_eq_false_iff_ne.mpr c8
                have c8b1 : (x6_2 != 0) = true := bne_iff_ne.mpr c8
                have H' := Aside0.mk H
                clear H
                go_wp2
                go_roundg k2
                case measure => have := HJ2.out; have := HK2.out; omega
                case rel => exact ⟨(wrap64 (Int.tdiv (wrap64 (x5_2 * (wrap64 ((wrap64 (a0 - x6_2)) + 1)))) x6_2)), (wrap64 (x6_2 + 1)), (by first | rfl | (simp; done) | (simp [*]; done)), (by first | rfl | (simp; done) | (simp [*]; done)), H', ⟨by have := HJ2.out; have := HK2.out; omega⟩, ⟨by repeat (first | (with_reducible first | exact HB.out | apply below_alloc | apply pw_below_drewN | apply below_drew1) | exact HB.out)⟩⟩
            · rw [if_neg c7] at H
              have c7b0 : decide (x6_2 ≤ (ji6)) = false := decide_eq_false c7
              clear c7
              obtain rfl := Option.some.inj H
              go_wp2
              go_ret
              exact ⟨by first | rfl | (simp [errW_none, errW_some] <;> rfl) | (simp only [← hji6]; first | rfl | (simp [errW_none, errW_some] <;> rfl)) | (simp [*, errW_none, errW_some] <;> rfl), by repeat (first | (with_reducible first | exact HB.out | apply below_alloc | apply pw_below_drewN | apply below_drew1) | exact HB.out)⟩

end Go.Proofs.Ytgchhheajngbfaa.P

set_option linter.unusedSimpArgs false
set_option linter.unusedVariables false
namespace Go.Proofs.Ytgchhheajngbfaa.P
open Go.Lib Go.RowKit Go.Proofs.YtgchhheajngbfaaW.PrintWords Go.Proofs.YtgchhheajngbfaaW.PrintLast Go.Proofs.YtgchhheajngbfaaW.PrintMore Go.Proofs.Ytgchhheajngbfaa.Kit

theorem ones12 {s : Nat} (h : s < 4096) : onesCount s = popAux 12 s := popAux_fuel 12 64 s h (by decide)
theorem litL_sgs (k : Nat) {N : Nat} (hN : N ≤ 4096) : litL k N = intsN (sgs k N) := by
  have h : ((List.range N).filter fun s => onesCount s == k) = (List.range N).filter fun s => popAux 12 s == k :=
    List.filter_congr (fun s hs => by rw [ones12 (by have := List.mem_range.1 hs; omega)])
  unfold litL intsN sgs
  rw [h]
theorem chTo_eq (n : Nat) : chTo n (2 ^ n) = (chainsN n).map chI := rfl
theorem choose_all : ((List.range 12).all fun n => neonwrightref03_Choose.f 40 ((n + 1 : Nat) : Int) (((n + 1) / 2 : Nat) : Int) == some (((sgs ((n + 1) / 2) (2 ^ (n + 1))).length : Nat) : Int)) = true := by decide +kernel
theorem choose_at {n : Nat} (h1 : 1 ≤ n) (h2 : n ≤ 12) : neonwrightref03_Choose.f 40 (n : Int) ((n / 2 : Nat) : Int) = some (((litL (n / 2) (2 ^ n)).length : Nat) : Int) := by
  have h := choose_all
  rw [List.all_eq_true] at h
  have := h (n - 1) (List.mem_range.2 (by omega))
  rw [show n - 1 + 1 = n by omega, beq_iff_eq] at this
  rw [this, litL_sgs _ (pow4096 h2), intsN_len]
theorem sgOk_mk (n : Int) : ∀ (l seen : List Int), l.Nodup → (∀ x ∈ l, sgIn n x = true) → (∀ x ∈ l, x ∉ seen) → sgOk n seen l = true
  | [], _, _, _, _ => rfl
  | x :: xs, seen, h1, h2, h3 => by
    simp only [sgOk]
    have hx : seen.contains x = false := by
      have := h3 x List.mem_cons_self
      simpa using this
    rw [if_pos (h2 x List.mem_cons_self), if_neg (by rw [hx]; decide)]
    have hn := List.nodup_cons.1 h1
    refine sgOk_mk n xs _ hn.2 (fun y hy => h2 y (List.mem_cons_of_mem _ hy)) (fun y hy hm => ?_)
    rcases List.mem_append.1 hm with h | h
    · exact h3 y (List.mem_cons_of_mem _ hy) h
    · rw [List.mem_singleton] at h
      exact hn.1 (h ▸ hy)
theorem signs_mid {n : Nat} (h1 : 1 ≤ n) (h2 : n ≤ 12) (hl : (litL (n / 2) (2 ^ n)).length ≤ 200) : signsN (n : Int) (litL (n / 2) (2 ^ n)) = 0 := by
  have hp := pow4096 h2
  unfold signsN
  rw [if_pos (by omega), if_neg (by omega), if_pos]
  refine sgOk_mk _ _ _ ?_ (fun x hx => ?_) (fun x hx hm => by cases hm)
  · unfold litL List.Nodup
    rw [List.pairwise_map]
    have hpw : ((List.range (2 ^ n)).filter fun s => onesCount s == n / 2).Pairwise (· < ·) := List.pairwise_lt_range.filter _
    exact hpw.imp (fun hab e => by omega)
  · unfold litL at hx
    obtain ⟨s, hs, rfl⟩ := List.mem_map.1 hx
    have := List.mem_range.1 (List.mem_filter.1 hs).1
    unfold sgIn
    rw [Int.toNat_natCast]
    exact decide_eq_true (by omega)
theorem unord_mid {n : Nat} (h1 : 1 ≤ n) (h2 : n ≤ 12) (hl : (litL (n / 2) (2 ^ n)).length ≤ 200) : unordN (n : Int) (litL (n / 2) (2 ^ n)) = ([], 0) := by
  unfold unordN
  rw [if_pos (signs_mid h1 h2 hl), litL_sgs _ (pow4096 h2), mid_unord h2]
/-- What the chains are. -/
structure ChFacts (n : Nat) : Prop where
  count : (chainsN n).length = (litL (n / 2) (2 ^ n)).length
  nodup : (chainsN n).flatten.Nodup
  lt : ∀ s ∈ (chainsN n).flatten, s < 2 ^ n
  all : ∀ s, s < 2 ^ n → s ∈ (chainsN n).flatten
  each : ∀ c ∈ chainsN n, pairsOk c = true ∧ (c.countP fun s => popAux 12 s == n / 2) = 1
theorem chFacts {n : Nat} (h1 : 1 ≤ n) (h2 : n ≤ 12) : ChFacts n := by
  have hc : chOk n = true := by
    have := chains_closed (n - 1) (by omega)
    rw [show n - 1 + 1 = n by omega] at this
    exact this
  obtain ⟨a, ⟨b, c, d⟩, e⟩ := chOk_spec hc
  refine ⟨?_, b, c, d, e⟩
  rw [a, litL_sgs _ (pow4096 h2), intsN_len]
  rfl
theorem pairs_at : ∀ {c : List Nat}, pairsOk c = true → ∀ k (hk : k + 1 < c.length), c[k] &&& c[k + 1] = c[k] ∧ popAux 12 c[k + 1] = popAux 12 c[k] + 1
  | [], _, k, hk => absurd hk (by simp)
  | [a], _, k, hk => absurd hk (by simp)
  | a :: b :: l, h, 0, hk => by
    simp only [pairsOk, Bool.and_eq_true, beq_iff_eq] at h
    exact ⟨h.1, h.2.1⟩
  | a :: b :: l, h, k + 1, hk => by
    simp only [pairsOk, Bool.and_eq_true, beq_iff_eq] at h
    exact pairs_at h.2.2 k (by simpa using hk)
/-- What was seen when the first i chains, and of the next one the first k signs, were gone through. -/
def seenN (n i k : Nat) : List Nat := ((chainsN n).take i).flatten ++ ((chainsN n).getD i []).take k
theorem seenN_next {n i k : Nat} (hi : i < (chainsN n).length) (hk : k < ((chainsN n)[i]).length) : seenN n i (k + 1) = seenN n i k ++ [((chainsN n)[i])[k]] := by
  unfold seenN
  rw [show (chainsN n).getD i [] = (chainsN n)[i] by simp [List.getD_eq_getElem?_getD, hi], List.take_succ_eq_append_getElem hk, List.append_assoc]
theorem seenN_row {n i : Nat} (hi : i < (chainsN n).length) : seenN n (i + 1) 0 = seenN n i ((chainsN n)[i]).length := by
  unfold seenN
  rw [show (chainsN n).getD i [] = (chainsN n)[i] by simp [List.getD_eq_getElem?_getD, hi], List.take_succ_eq_append_getElem hi, List.flatten_append, List.take_length, List.take_zero, List.append_nil]
  simp
theorem split_at (k : Nat) (c : List Nat) (hk : k < c.length) (X : List Nat) : c ++ X = c.take k ++ c[k] :: (c.drop (k + 1) ++ X) := by
  have h3 : c.take k ++ c[k] :: c.drop (k + 1) = c := by rw [← List.drop_eq_getElem_cons hk, List.take_append_drop]
  have h4 : c ++ X = (c.take k ++ c[k] :: c.drop (k + 1)) ++ X := by rw [h3]
  exact h4.trans (by rw [List.append_assoc, List.cons_append])
theorem seenN_not {n i k : Nat} (h : (chainsN n).flatten.Nodup) (hi : i < (chainsN n).length) (hk : k < ((chainsN n)[i]).length) : ((chainsN n)[i])[k] ∉ seenN n i k := by
  have e : (chainsN n).flatten = ((chainsN n).take i).flatten ++ (((chainsN n)[i]).take k ++ ((chainsN n)[i])[k] :: (((chainsN n)[i]).drop (k + 1) ++ ((chainsN n).drop (i + 1)).flatten)) := by
    conv => lhs; rw [← List.take_append_drop i (chainsN n), List.drop_eq_getElem_cons hi, List.flatten_append, List.flatten_cons]
    congr 1
    exact split_at k _ hk _
  rw [e, ← List.append_assoc] at h
  have h2 := (List.nodup_append.1 h).2.2
  unfold seenN
  rw [show (chainsN n).getD i [] = (chainsN n)[i] by simp [List.getD_eq_getElem?_getD, hi]]
  intro hm
  exact h2 _ hm _ List.mem_cons_self rfl
theorem seenN_all (n : Nat) : seenN n (chainsN n).length 0 = (chainsN n).flatten := by
  unfold seenN
  rw [List.take_length, List.take_zero, List.append_nil]

/-- A row of N marks of one's own: the numbers of the list are marked. -/
def Seen (W : World) (B : Nat) (v : Value) (N : Nat) (done : List Nat) : Prop := ∃ g cap, v = .slice (some ⟨g, 0, none⟩) N cap ∧ B ≤ g ∧ Kd.bool.R 4 W B (fun _ => True) v ((List.range N).map fun s => done.contains s)
theorem Seen.below {W W' : World} {B N : Nat} {v : Value} {done : List Nat} (h : Seen W B v N done) (hb : Below W.heap.size W W') : Seen W' B v N done := by
  obtain ⟨g, cap, e, hg, hR⟩ := h
  exact ⟨g, cap, e, hg, Kd.R_below hR hb⟩
theorem Seen.drewN {W : World} {B N : Nat} {v : Value} {done : List Nat} (h : Seen W B v N done) (n : Nat) : Seen (W.drewN n) B v N done := h.below (pw_below_drewN (Below.refl _ _) n)
theorem add_bare (g j : Nat) : (⟨g, 0, none⟩ : Addr).add j = ⟨g, j, none⟩ := by
  unfold Addr.add
  by_cases e : j = 0
  · rw [if_pos e, e]
  · rw [if_neg e]; simp
theorem Seen.at {W : World} {B N : Nat} {v : Value} {done : List Nat} (h : Seen W B v N done) : ∃ ad cap, v = .slice (some ad) N cap ∧ ∀ s, s < N → W.cell? (ad.add s) = some (.bool (done.contains s)) ∧ W.frozen? (ad.add s) = false ∧
    Seen (W.setCell (ad.add s) (.bool true)) B v N (done ++ [s]) ∧ ∀ w0, Below B w0 W → Below B w0 (W.setCell (ad.add s) (.bool true)) := by
  obtain ⟨g, cap, rfl, hg, hR⟩ := h
  refine ⟨⟨g, 0, none⟩, cap, rfl, fun s hs => ?_⟩
  have hl : ((List.range N).map fun s => done.contains s).length = N := by rw [List.length_map, List.length_range]
  have hR' : Kd.bool.R 4 W B (fun _ => True) (.slice (some ⟨g, 0, none⟩) ((List.range N).map fun s => done.contains s).length cap) ((List.range N).map fun s => done.contains s) := by rw [hl]; exact hR
  have h1 := Kd.R_cell (enc := Value.bool) (h1 := fun _ => rfl) false hR' (s : Int) (by omega) (by rw [hl]; omega)
  have h2 := (Kd.R_put (enc := Value.bool) (h1 := fun _ => rfl) hR' (s : Int) true).1
  rw [Int.toNat_natCast] at h1 h2
  rw [add_bare]
  have hv : rdOf false ((List.range N).map fun s => done.contains s) (s : Int) = done.contains s := by
    unfold rdOf
    simp [List.getD_eq_getElem?_getD, hs]
  rw [hv] at h1
  refine ⟨h1.1, h1.2, ⟨g, cap, rfl, hg, ?_⟩, fun w0 hw => hw.setCell (p := ⟨g, s, none⟩) hg _⟩
  have he : ((List.range N).map fun s => done.contains s).set s true = (List.range N).map fun x => (done ++ [s]).contains x := by
    refine List.ext_getElem (by simp) (fun i a b => ?_)
    rw [List.getElem_set]
    by_cases e : s = i
    · subst e; simp
    · have e2 : ¬ i = s := fun h => e h.symm
      simp [e, e2]
  rw [he, hl] at h2
  exact h2
theorem Seen.mk0 {W : World} {B N : Nat} {v : Value} (hN : 0 < N) (h : Kd.bool.R 4 W B (fun _ => True) v (List.replicate N false)) : Seen W B v N [] := by
  obtain ⟨g, cap, rfl, hg, _⟩ := Kd.R_form h (by rw [List.length_replicate]; exact hN)
  rw [List.length_replicate] at h ⊢
  refine ⟨g, cap, rfl, hg, ?_⟩
  have he : ((List.range N).map fun s => ([] : List Nat).contains s) = List.replicate N false := by
    refine List.ext_getElem (by simp) (fun i a b => by simp)
  rw [he]
  exact h
theorem Seen.put {W : World} {B N c : Nat} {ad : Addr} {done : List Nat} (h : Seen W B (.slice (some ad) N c) N done) {s : Nat} (hs : s < N) : Seen (W.setCell (ad.add s) (.bool true)) B (.slice (some ad) N c) N (done ++ [s]) := by
  obtain ⟨ad', cap, e, h1⟩ := h.at
  injection e with e1 e2 e3
  injection e1 with e1
  subst e1
  exact (h1 s hs).2.2.1
theorem Seen.put_below {W w0 : World} {B N c : Nat} {ad : Addr} {done : List Nat} (h : Seen W B (.slice (some ad) N c) N done) {s : Nat} (hs : s < N) (hb : Below B w0 W) : Below B w0 (W.setCell (ad.add s) (.bool true)) := by
  obtain ⟨ad', cap, e, h1⟩ := h.at
  injection e with e1 e2 e3
  injection e1 with e1
  subst e1
  exact (h1 s hs).2.2.2 w0 hb
theorem Seen.get {W : World} {B N c : Nat} {ad : Addr} {done : List Nat} (h : Seen W B (.slice (some ad) N c) N done) {s : Nat} (hs : s < N) : W.cell? (ad.add s) = some (.bool (done.contains s)) ∧ W.frozen? (ad.add s) = false := by
  obtain ⟨ad', cap, e, h1⟩ := h.at
  injection e with e1 e2 e3
  injection e1 with e1
  subst e1
  exact ⟨(h1 s hs).1, (h1 s hs).2.1⟩
theorem Seen.new (W : World) (N : Nat) (hN : N ≤ 4096) : Seen (W.alloc (.cells (madeCells #[.bool false] N) 4)) W.heap.size (.slice (some ⟨W.heap.size, 0, none⟩) N N) N [] := by
  refine ⟨W.heap.size, N, rfl, Nat.le_refl _, ?_⟩
  have h := own_made_of (enc := Value.bool) (d := false) W W.heap.size 4 N (Nat.le_refl _) (by omega)
  have he : ((List.range N).map fun s => ([] : List Nat).contains s) = List.replicate N false := by
    refine List.ext_getElem (by simp) (fun i a b => by simp)
  rw [he]
  exact Kd.R_of_own (enc := Value.bool) (h1 := fun _ => rfl) (by rw [List.length_replicate]; exact h) (fun _ _ => trivial)
theorem make_marks (N : Nat) (hN : N ≤ 4096) : ∀ W : World, (Instr.makeSlice 49 (.int .i64 (N : Int)) (.int .i64 (N : Int))).run Try.prog W = .ok (.slice (some ⟨W.heap.size, 0, none⟩) N N) (W.alloc (.cells (madeCells #[.bool false] N) 4)) :=
  print_make_of 49 4 (.bool false) 1 Try.underlying49 info4 rfl (by decide) N (by omega)
end Go.Proofs.Ytgchhheajngbfaa.P

set_option linter.unusedSimpArgs false
set_option linter.unusedVariables false
namespace Go.Proofs.Ytgchhheajngbfaa.P
open Go.Lib Go.RowKit Go.Proofs.YtgchhheajngbfaaW.PrintWords Go.Proofs.YtgchhheajngbfaaW.PrintLast Go.Proofs.YtgchhheajngbfaaW.PrintMore Go.Proofs.Ytgchhheajngbfaa.Kit
attribute [local go_sem] max2_int min2_int max_two min_two max_three min_three max_four min_four

def neonwrightlaw03_CodeSperner.f (k : Nat) (a0 : Int) (l1 : List Int) : Option Bool := some true
set_option maxHeartbeats 60000000
set_option maxRecDepth 100000
theorem sperner_long (a0 : Int) (A1 : Option Addr) (c1 : Nat) (l1 : List Int) (w : World) (c3 : (l1.length : Int) > 300) :
    Calls Try.prog 10 #[.int .i64 a0, .slice A1 l1.length c1] w fun e w' => e = .returned (.bool true) ∧ Below w.heap.size w w' := by
  obtain ⟨ka, hka⟩ := Ev.rounds alive_ev
  have HKA := Aside0.mk hka
  clear hka
  have c3b0 : decide (300 < (l1.length : Int)) = true := decide_eq_true c3
  have c3b1 : decide (300 < l1.length) = true := decide_eq_true (by omega)
  clear c3
  have HB := Aside0.mk (Below.refl w.heap.size w)
  go_enter Try.func10, Try.ntmps10
  go_wp2_with (go_at_call 18; (refine (neonwrightlaw03_alive.calls ka true _ HKA.out).mono ?_); rintro _ w9 ⟨rfl, hb⟩; have HB9 := Aside0.mk (below_step (by repeat (first | exact HB.out | apply pw_below_drewN | apply below_drew1)) hb); clear hb)
  go_ret
  exact ⟨rfl, HB9.out⟩
theorem sperner_arg (a0 : Int) (A1 : Option Addr) (c1 : Nat) (l1 : List Int) (w : World) (c3 : ¬ (l1.length : Int) > 300) (hn : ¬ (1 ≤ a0 ∧ a0 ≤ 12)) :
    Calls Try.prog 10 #[.int .i64 a0, .slice A1 l1.length c1] w fun e w' => e = .returned (.bool true) ∧ Below w.heap.size w w' := by
  obtain ⟨ka, hka⟩ := Ev.rounds alive_ev
  have HKA := Aside0.mk hka
  clear hka
  have c3b0 : decide (300 < (l1.length : Int)) = false := decide_eq_false c3
  have c3b1 : decide (300 < l1.length) = false := decide_eq_false (by omega)
  clear c3
  obtain ⟨n5, h5⟩ := Ev.rounds (chains_ev a0)
  unfold chainsR at h5
  rw [if_neg hn] at h5
  have h1 := mid_f a0
  rw [if_neg hn] at h1
  have H1 := Aside0.mk h1
  have H5 := Aside0.mk h5
  clear h1 h5 hn
  have HB := Aside0.mk (Below.refl w.heap.size w)
  go_enter Try.func10, Try.ntmps10
  go_wp2_with (go_at_call 31; (refine (code_Chains.calls n5 a0 [] 2 _ H5.out).mono ?_); rintro _ w1 ⟨v5, rfl, hS, hb⟩; obtain ⟨A5, c5, rfl⟩ := Kd.S_slice hS; have HB5 := Aside0.mk (below_step (by repeat (first | exact HB.out | apply pw_below_drewN | apply below_drew1)) hb); clear hS hb)
  clear HB
  go_wp2_with (go_at_call 26; (refine (code_Middle.calls a0 [] 2 _ H1.out).mono ?_); rintro _ w2 ⟨v7, rfl, hR, hb⟩; obtain ⟨A7, c7, rfl⟩ := Kd.R_slice hR; have HB7 := Aside0.mk (below_step (by repeat (first | exact HB5.out | apply pw_below_drewN | apply below_drew1)) hb); clear hR hb)
  clear HB5
  go_wp2_with (go_at_call 18; (refine (neonwrightlaw03_alive.calls ka true _ HKA.out).mono ?_); rintro _ w9 ⟨rfl, hb⟩; have HB9 := Aside0.mk (below_step (by repeat (first | exact HB7.out | apply pw_below_drewN | apply below_drew1)) hb); clear hb)
  go_ret
  exact ⟨rfl, HB9.out⟩
theorem sperner_main (N : Nat) (hN1 : 1 ≤ N) (hN2 : N ≤ 12) (A1 : Option Addr) (c1 : Nat) (l1 : List Int) (w : World) (hr1 : Kd.C (Kd.int .i64) w A1 l1.length l1) (hc1 : l1.length ≤ c1) (c3 : ¬ (l1.length : Int) > 300) :
    Calls Try.prog 10 #[.int .i64 (N : Int), .slice A1 l1.length c1] w fun e w' => e = .returned (.bool true) ∧ Below w.heap.size w w' := by
  obtain ⟨ka, hka⟩ := Ev.rounds alive_ev
  have HKA := Aside0.mk hka
  clear hka
  have HR1 := Aside0.mk hr1
  have HC1 := Aside0.mk hc1
  clear hr1 hc1
  have c3b0 : decide (300 < (l1.length : Int)) = false := decide_eq_false c3
  have c3b1 : decide (300 < l1.length) = false := decide_eq_false (by omega)
  have HL1 := Aside0.mk (show l1.length ≤ 300 by omega)
  clear c3
  obtain ⟨n5, h5⟩ := Ev.rounds (chains_ev (N : Int))
  unfold chainsR at h5
  rw [if_pos (by omega), Int.toNat_natCast, chTo_eq] at h5
  have h1 := mid_f (N : Int)
  rw [if_pos (by omega), Int.toNat_natCast] at h1
  have hF := chFacts hN1 hN2
  have hch := choose_at hN1 hN2
  have hum := unord_mid hN1 hN2
  have hfew := fun hs hu => unord_few hN1 hN2 l1 hs hu
  obtain ⟨l, hl⟩ : ∃ l, (chainsN N).map chI = l := ⟨_, rfl⟩
  obtain ⟨m, hm⟩ : ∃ m, litL (N / 2) (2 ^ N) = m := ⟨_, rfl⟩
  obtain ⟨K, hK⟩ : ∃ K, N / 2 = K := ⟨_, rfl⟩
  have hq : wrap64 ((N : Int) / 2) = (K : Int) := by rw [w64 (by omega) (by omega)]; omega
  have hp := pow4096 hN2
  have hpos : 0 < 2 ^ N := Nat.two_pow_pos N
  have hw : wrap64 (2 ^ min N 64) = ((2 ^ N : Nat) : Int) := by
    rw [Nat.min_eq_left (by omega)]
    have := w64n (2 ^ N) (by omega)
    rw [← this]
    congr 1
  obtain ⟨T, hT⟩ : ∃ T, 2 ^ N = T := ⟨_, rfl⟩
  have hll : l.length = m.length := by rw [← hl, ← hm, List.length_map]; exact hF.count
  have hml : m.length ≤ 4096 := by rw [← hm]; exact Nat.le_trans (litL_len _ _) hp
  rw [hl] at h5
  rw [hm] at h1 hch hum
  rw [hK] at hch
  rw [hT] at hw hp hpos
  have HF := Aside0.mk hF
  have HLe := Aside0.mk hl
  have HMe := Aside0.mk hm
  have HKe := Aside0.mk hK
  have HTe := Aside0.mk hT
  have HCh := Aside0.mk hch
  have HUm := Aside0.mk hum
  have HFew := Aside0.mk hfew
  have HP := Aside0.mk (And.intro hp hpos)
  have hmk := make_marks T hp
  have HLm := Aside0.mk hll
  have HMl := Aside0.mk hml
  have H1 := Aside0.mk h1
  have H5 := Aside0.mk h5
  have b1 : ((l.length : Int) != (m.length : Int)) = false := by rw [hll]; simp
  have b2 : ((m.length : Int) != (m.length : Int)) = false := by simp
  clear hF hl hm hK hT hch hum hfew hp hpos hll hml h1 h5
  have HNN := Aside0.mk (And.intro hN1 hN2)
  clear hN1 hN2
  have HB := Aside0.mk (Below.refl w.heap.size w)
  go_enter Try.func10, Try.ntmps10
  go_wp2_with (go_at_call 31; (refine (code_Chains.calls n5 (N : Int) l 0 _ H5.out).mono ?_); rintro _ w1 ⟨v5, rfl, hS, hb⟩; obtain ⟨A5, c5, rfl⟩ := Kd.S_slice hS; have HC5 := Aside0.mk (Kd.S_reads' hS); have HB5 := Aside0.mk (below_step (by repeat (first | exact HB.out | apply pw_below_drewN | apply below_drew1)) hb); clear hS hb)
  clear HB
  go_wp2_with (go_at_call 26; (refine (code_Middle.calls (N : Int) m 0 _ H1.out).mono ?_); rintro _ w2 ⟨v7, rfl, hR, hb⟩; obtain ⟨A7, c7, rfl⟩ := Kd.R_slice hR; have HC7 := Aside0.mk (Kd.R_reads' hR); have HR5 := Aside0.mk (Kd.C_below HC5.out.2.2 hb); have HL5 := Aside0.mk HC5.out.2.1; have HB7 := Aside0.mk (below_step (by repeat (first | exact HB5.out | apply pw_below_drewN | apply below_drew1)) hb); clear hR hb)
  clear HB5 HC5
  go_wp2_with (first | (go_at_call 33; (refine (neonwrightref03_Choose.calls 40 (N : Int) (K : Int) (m.length : Int) _ HCh.out).mono ?_); rintro _ w3 ⟨rfl, hb⟩; have HR5b := Aside0.mk (Kd.C_below HR5.out hb); have HR7 := Aside0.mk (Kd.C_below HC7.out.2.2 hb); have HB8 := Aside0.mk (below_step (by repeat (first | exact HB7.out | apply pw_below_drewN | apply below_drew1)) hb); clear hb))
  have HSn := Aside0.mk (Seen.new w3 T HP.out.1)
  have HBn := Aside0.mk (show Below w3.heap.size w3 (w3.alloc (.cells (madeCells #[.bool false] T) 4)) from below_alloc (Below.refl _ _) _)
  generalize (w3.alloc (.cells (madeCells #[.bool false] T) 4)) = w4 at *
  generalize (⟨w3.heap.size, 0, none⟩ : Addr) = ad9 at *
  clear hmk
  try rw [hw]
  have HL7 := Aside0.mk HC7.out.2.1
  clear HB7 HC7 HR5
  go_loopw [10] (fun v10 w' => ∃ i : Nat, v10 = .int .i64 (i : Int) ∧ Aside0 (i ≤ l.length) ∧ Aside0 (Seen w' w3.heap.size (.slice (some ad9) T T) T (seenN N i 0)) ∧ Aside0 (Below w3.heap.size w3 w')) (fun v _ => l.length - (intOf v).toNat)
  case atStart => exact ⟨0, rfl, ⟨Nat.zero_le _⟩, HSn, HBn⟩
  case round =>
    clear HSn HBn
    obtain ⟨i, rfl, Hi, HSn, HBn⟩ := hrel
    by_cases ci : (i : Int) < (l.length : Int)
    · have c4 : decide ((i : Int) < (l.length : Int)) = true := decide_eq_true ci
      have c4' : decide (i < l.length) = true := decide_eq_true (by omega)
      have Hci := Aside0.mk (show i < l.length by omega)
      have q1 := eq_true ci
      have q2 := eq_true (show i < l.length by omega)
      have q3 := eq_true (show 0 ≤ (i : Int) by omega)
      clear ci
      obtain ⟨ch, hch⟩ : ∃ ch, (chainsN N)[i]'(by have := Hci.out; rw [← HLe.out, List.length_map] at this; exact this) = ch := ⟨_, rfl⟩
      have hrow : rd_L2 l (i : Int) = chI ch := by
        rw [rdL_get l i Hci.out, ← hch]
        have := HLe.out
        subst this
        exact List.getElem_map _
      have HIc := Aside0.mk (show i < (chainsN N).length by have := Hci.out; rw [← HLe.out, List.length_map] at this; exact this)
      have HChe := Aside0.mk hch
      have HRow := Aside0.mk hrow
      have hc13 : ch.length ≤ 13 := by
        have hm : ch ∈ chainsN N := by rw [← hch]; exact List.getElem_mem _
        unfold chainsN at hm
        obtain ⟨s, _, rfl⟩ := List.mem_map.1 hm
        have := (chain_len (n := N) (s := s) HNN.out.2).1
        rwa [chI_len] at this
      have HC13 := Aside0.mk hc13
      clear hc13
      have HPk := Aside0.mk (HF.out.each ch (by rw [← hch]; exact List.getElem_mem _))
      clear hrow hch
      have hrd : ∀ W, Below w3.heap.size w3 W → ∃ ad A6 c6, A5 = some ad ∧ W.cell? (ad.add i) = some (.slice A6 ch.length c6) ∧ (Kd.int .i64).C W A6 ch.length (chI ch) := fun W hW => by
        obtain ⟨ad5, A6, c6, e5, hx5, hl6, hR6⟩ := at_L2 (Kd.C_below HR5b.out hW) (i : Int) (by omega) (by have := Hci.out; omega)
        rw [HRow.out, chI_len, Int.toNat_natCast] at hx5
        rw [HRow.out, chI_len] at hR6
        exact ⟨ad5, A6, c6, e5, hx5, hR6⟩
      have HRd := Aside0.mk hrd
      clear hrd
      go_wp2
      go_loopw [11, 12] (fun v11 v12 w' => ∃ k : Nat, v12 = .int .i64 (k : Int) ∧ v11 = .int .i64 (((ch.take k).countP fun s => popAux 12 s == K : Nat) : Int) ∧ Aside0 (k ≤ ch.length) ∧ Aside0 (Seen w' w3.heap.size (.slice (some ad9) T T) T (seenN N i k)) ∧ Aside0 (Below w3.heap.size w3 w')) (fun _ v _ => ch.length - (intOf v).toNat)
      case atStart => exact ⟨0, rfl, by simp, ⟨Nat.zero_le _⟩, HSn, HBn⟩
      case round =>
        clear HSn HBn
        obtain ⟨k, rfl, rfl, Hk, HSn, HBn⟩ := hrel
        obtain ⟨ad5, A6, c6, e5, hx5, hR6⟩ := HRd.out _ HBn.out
        cases e5
        have HR6 := Aside0.mk hR6
        clear hR6
        by_cases ck : (k : Int) < (ch.length : Int)
        · have c5 : decide ((k : Int) < (ch.length : Int)) = true := decide_eq_true ck
          have c5' : decide (k < ch.length) = true := decide_eq_true (by omega)
          have Hck := Aside0.mk (show k < ch.length by omega)
          have q4 := eq_true ck
          have q5 := eq_true (show k < ch.length by omega)
          have q6 := eq_true (show 0 ≤ (k : Int) by omega)
          clear ck
          obtain ⟨ad6, e6, hx6⟩ := Kd.at_int HR6.out (k : Int) (by omega) (by have := Hck.out; omega)
          cases e6
          rw [Int.toNat_natCast, chI_get _ _ Hck.out] at hx6
          have hmem : ch[k]'Hck.out ∈ (chainsN N).flatten := List.mem_flatten.2 ⟨ch, by rw [← HChe.out]; exact List.getElem_mem _, List.getElem_mem _⟩
          have hsT : ch[k]'Hck.out < T := by rw [← HTe.out]; exact HF.out.lt _ hmem
          have hnot : ch[k]'Hck.out ∉ seenN N i k := by
            have := HChe.out
            subst this
            exact seenN_not HF.out.nodup HIc.out Hck.out
          have hnx : seenN N i (k + 1) = seenN N i k ++ [ch[k]'Hck.out] := by
            have := HChe.out
            subst this
            exact seenN_next HIc.out Hck.out
          have hct : (ch.take (k + 1)).countP (fun s => popAux 12 s == K) = (ch.take k).countP (fun s => popAux 12 s == K) + if popAux 12 (ch[k]'Hck.out) = K then 1 else 0 := by
            rw [List.take_succ_eq_append_getElem Hck.out, List.countP_append, List.countP_singleton]
            by_cases h : popAux 12 (ch[k]'Hck.out) = K <;> simp [h]
          have hpv : ∀ k1 (h1 : k = k1 + 1), ch[k1]'(by have := Hck.out; omega) &&& ch[k]'Hck.out = ch[k1]'(by have := Hck.out; omega) ∧ popAux 12 (ch[k]'Hck.out) = popAux 12 (ch[k1]'(by have := Hck.out; omega)) + 1 := fun k1 h1 => by
            subst h1
            exact pairs_at HPk.out.1 k1 Hck.out
          have HPv := Aside0.mk hpv
          clear hpv
          have HCl := Aside0.mk (show ((ch.take k).countP (fun s => popAux 12 s == K)) ≤ 13 from Nat.le_trans List.countP_le_length (by rw [List.length_take]; have := HC13.out; omega))
          generalize (ch.take k).countP (fun s => popAux 12 s == K) = mid at *
          obtain ⟨s, hs⟩ : ∃ s, ch[k]'Hck.out = s := ⟨_, rfl⟩
          rw [hs] at hx6 hsT hnot hnx hct
          have HSe := Aside0.mk hs
          clear hs hmem
          obtain ⟨hx9, hf9⟩ := HSn.out.get hsT
          have hcf : (seenN N i k).contains s = false := by simpa using hnot
          rw [hcf] at hx9
          have hs4 : s < 4096 := by have := HP.out.1; omega
          obtain ⟨ks, hks⟩ := Ev.rounds (lit_ev s 12 hs4 (by decide))
          rw [ones12 hs4] at hks
          obtain ⟨ls, hls⟩ : ∃ ls, popAux 12 s = ls := ⟨_, rfl⟩
          rw [hls] at hks hct
          have HLs := Aside0.mk hks
          have HLse := Aside0.mk hls
          have HNx := Aside0.mk hnx
          have HCt := Aside0.mk hct
          have HsT := Aside0.mk hsT
          have d1 : decide ((s : Int) < 0) = false := decide_eq_false (by omega)
          have d2 : decide ((T : Int) ≤ (s : Int)) = false := decide_eq_false (by omega)
          have d3 : decide (T ≤ s) = false := decide_eq_false (by omega)
          have q7 := eq_true (show (s : Int) < (T : Int) by omega)
          have q8 := eq_true (show s < T by omega)
          have q9 := eq_true (show 0 ≤ (s : Int) by omega)
          clear hks hls hnx hct hsT hnot hcf hs4
          have hwk : wrap64 ((k : Int) + 1) = ((k + 1 : Nat) : Int) := wrap1 (by have := Hck.out; have := HC13.out; omega)
          rcases Nat.eq_zero_or_pos k with hk0 | hk0
          · have d4 : decide (0 < (k : Int)) = false := decide_eq_false (by omega)
            have d5 : decide (0 < k) = false := decide_eq_false (by omega)
            clear hk0
            by_cases hm : ls = K
            · have e1 : ((ls : Int) == (K : Int)) = true := by rw [hm]; simp
              have e2 : (ls == K) = true := by rw [hm]; simp
              rw [if_pos hm] at HCt
              clear hm
              go_wp2_with (first | (go_at_call 35; (with_reducible refine (neonwrightref03_Lit.calls ks (s : Int) (ls : Int) _ HLs.out).mono ?_); rintro e w' ⟨rfl, ⟨nd, rfl⟩⟩; (try first | exact ⟨rfl, _, World.drewN_drewN _ _ _⟩ | exact ⟨rfl, _, Eq.trans (World.drewN_drewN _ _ _) (congrArg (World.drewN _) (Nat.add_assoc _ _ _))⟩)))
              repeat (go_quiet (first | (go_at_call 35; (with_reducible refine (neonwrightref03_Lit.calls ks (s : Int) (ls : Int) _ HLs.out).mono ?_); rintro e w' ⟨rfl, ⟨nd, rfl⟩⟩; (try first | exact ⟨rfl, _, World.drewN_drewN _ _ _⟩ | exact ⟨rfl, _, Eq.trans (World.drewN_drewN _ _ _) (congrArg (World.drewN _) (Nat.add_assoc _ _ _))⟩))); try go_wp2_with (first | (go_at_call 35; (with_reducible refine (neonwrightref03_Lit.calls ks (s : Int) (ls : Int) _ HLs.out).mono ?_); rintro e w' ⟨rfl, ⟨nd, rfl⟩⟩; (try first | exact ⟨rfl, _, World.drewN_drewN _ _ _⟩ | exact ⟨rfl, _, Eq.trans (World.drewN_drewN _ _ _) (congrArg (World.drewN _) (Nat.add_assoc _ _ _))⟩))))
              go_roundw
              case rel => exact ⟨k + 1, by rw [hwk], by rw [HCt.out, wrap1 (by have := HCl.out; omega)], ⟨Hck.out⟩, ⟨by rw [HNx.out]; repeat (first | exact HSn.out | apply Seen.drewN | refine Seen.put ?_ HsT.out)⟩, ⟨by repeat (first | exact HBn.out | apply pw_below_drewN | apply below_drew1 | refine Seen.put_below (N := T) (c := T) (done := seenN N i k) (by repeat (first | exact HSn.out | apply Seen.drewN)) HsT.out ?_)⟩⟩
              case measure => rw [hwk]; have := Hck.out; simp [intOf]; omega
            · have e1 : ((ls : Int) == (K : Int)) = false := by exact beq_eq_false_iff_ne.2 (by omega)
              have e2 : (ls == K) = false := by exact beq_eq_false_iff_ne.2 hm
              rw [if_neg hm] at HCt
              clear hm
              go_wp2_with (first | (go_at_call 35; (with_reducible refine (neonwrightref03_Lit.calls ks (s : Int) (ls : Int) _ HLs.out).mono ?_); rintro e w' ⟨rfl, ⟨nd, rfl⟩⟩; (try first | exact ⟨rfl, _, World.drewN_drewN _ _ _⟩ | exact ⟨rfl, _, Eq.trans (World.drewN_drewN _ _ _) (congrArg (World.drewN _) (Nat.add_assoc _ _ _))⟩)))
              repeat (go_quiet (first | (go_at_call 35; (with_reducible refine (neonwrightref03_Lit.calls ks (s : Int) (ls : Int) _ HLs.out).mono ?_); rintro e w' ⟨rfl, ⟨nd, rfl⟩⟩; (try first | exact ⟨rfl, _, World.drewN_drewN _ _ _⟩ | exact ⟨rfl, _, Eq.trans (World.drewN_drewN _ _ _) (congrArg (World.drewN _) (Nat.add_assoc _ _ _))⟩))); try go_wp2_with (first | (go_at_call 35; (with_reducible refine (neonwrightref03_Lit.calls ks (s : Int) (ls : Int) _ HLs.out).mono ?_); rintro e w' ⟨rfl, ⟨nd, rfl⟩⟩; (try first | exact ⟨rfl, _, World.drewN_drewN _ _ _⟩ | exact ⟨rfl, _, Eq.trans (World.drewN_drewN _ _ _) (congrArg (World.drewN _) (Nat.add_assoc _ _ _))⟩))))
              go_roundw
              case rel => exact ⟨k + 1, by rw [hwk], by rw [HCt.out]; (try rfl); (try simp), ⟨Hck.out⟩, ⟨by rw [HNx.out]; repeat (first | exact HSn.out | apply Seen.drewN | refine Seen.put ?_ HsT.out)⟩, ⟨by repeat (first | exact HBn.out | apply pw_below_drewN | apply below_drew1 | refine Seen.put_below (N := T) (c := T) (done := seenN N i k) (by repeat (first | exact HSn.out | apply Seen.drewN)) HsT.out ?_)⟩⟩
              case measure => rw [hwk]; have := Hck.out; simp [intOf]; omega
          · have d4 : decide (0 < (k : Int)) = true := decide_eq_true (by omega)
            have d5 : decide (0 < k) = true := decide_eq_true (by omega)
            obtain ⟨k1, hk1⟩ : ∃ k1, k = k1 + 1 := ⟨k - 1, by omega⟩
            have hkl : k1 < ch.length := by have := Hck.out; omega
            obtain ⟨hp1, hp2⟩ := HPv.out k1 hk1
            have hkm : wrap64 ((k : Int) - 1) = (k1 : Int) := by rw [w64 (by omega) (by have := HC13.out; omega)]; omega
            obtain ⟨ad7, e7, hx7⟩ := Kd.at_int HR6.out (k1 : Int) (by omega) (by omega)
            cases e7
            rw [Int.toNat_natCast, chI_get _ _ hkl] at hx7
            have hpm : ch[k1]'hkl ∈ (chainsN N).flatten := List.mem_flatten.2 ⟨ch, by rw [← HChe.out]; exact List.getElem_mem _, List.getElem_mem _⟩
            have hp4 : ch[k1]'hkl < 4096 := by
              have h1 := HF.out.lt _ hpm
              rw [HTe.out] at h1
              have := HP.out.1
              omega
            obtain ⟨p, hpe⟩ : ∃ p, ch[k1]'hkl = p := ⟨_, rfl⟩
            rw [hpe] at hx7 hp1 hp2 hp4
            rw [HSe.out] at hp1 hp2
            rw [HLse.out] at hp2
            obtain ⟨kp, hkp⟩ := Ev.rounds (lit_ev p 12 hp4 (by decide))
            rw [ones12 hp4] at hkp
            obtain ⟨lp, hlp⟩ : ∃ lp, popAux 12 p = lp := ⟨_, rfl⟩
            rw [hlp] at hkp hp2
            have hlp12 : lp ≤ 12 := by rw [← hlp]; exact popAux_le 12 12 p hp4
            have HLp := Aside0.mk hkp
            have HCv := Aside0.mk (show neonwrightref03_Covers.f (s : Int) (p : Int) = some true by
              unfold neonwrightref03_Covers.f
              rw [and64 _ _ (by have := HsT.out; have := HP.out.1; omega) (by omega), Nat.and_comm, hp1]
              simp)
            have g1 : ((ls : Int) != wrap64 ((lp : Int) + 1)) = false := by rw [wrap1 (by omega), hp2]; simp
            have q10 := eq_true (show (k1 : Int) < (ch.length : Int) by omega)
            have q11 := eq_true (show k1 < ch.length by omega)
            have q12 := eq_true (show 0 ≤ (k1 : Int) by omega)
            clear hk0 hk1 hkl hp1 hp2 hpm hp4 hpe hkp hlp hlp12
            by_cases hm : ls = K
            · have e1 : ((ls : Int) == (K : Int)) = true := by rw [hm]; simp
              have e2 : (ls == K) = true := by rw [hm]; simp
              rw [if_pos hm] at HCt
              clear hm
              go_wp2_with (first | (go_at_call 23; (with_reducible refine (neonwrightref03_Covers.calls (s : Int) (p : Int) true _ HCv.out).mono ?_); rintro e w' ⟨rfl, ⟨nd, rfl⟩⟩; (try first | exact ⟨rfl, _, World.drewN_drewN _ _ _⟩ | exact ⟨rfl, _, Eq.trans (World.drewN_drewN _ _ _) (congrArg (World.drewN _) (Nat.add_assoc _ _ _))⟩)) | (go_at_call 35; (with_reducible refine (neonwrightref03_Lit.calls ks (s : Int) (ls : Int) _ HLs.out).mono ?_); rintro e w' ⟨rfl, ⟨nd, rfl⟩⟩; (try first | exact ⟨rfl, _, World.drewN_drewN _ _ _⟩ | exact ⟨rfl, _, Eq.trans (World.drewN_drewN _ _ _) (congrArg (World.drewN _) (Nat.add_assoc _ _ _))⟩)) | (go_at_call 35; (with_reducible refine (neonwrightref03_Lit.calls kp (p : Int) (lp : Int) _ HLp.out).mono ?_); rintro e w' ⟨rfl, ⟨nd, rfl⟩⟩; (try first | exact ⟨rfl, _, World.drewN_drewN _ _ _⟩ | exact ⟨rfl, _, Eq.trans (World.drewN_drewN _ _ _) (congrArg (World.drewN _) (Nat.add_assoc _ _ _))⟩)))
              repeat (go_quiet (first | (go_at_call 23; (with_reducible refine (neonwrightref03_Covers.calls (s : Int) (p : Int) true _ HCv.out).mono ?_); rintro e w' ⟨rfl, ⟨nd, rfl⟩⟩; (try first | exact ⟨rfl, _, World.drewN_drewN _ _ _⟩ | exact ⟨rfl, _, Eq.trans (World.drewN_drewN _ _ _) (congrArg (World.drewN _) (Nat.add_assoc _ _ _))⟩)) | (go_at_call 35; (with_reducible refine (neonwrightref03_Lit.calls ks (s : Int) (ls : Int) _ HLs.out).mono ?_); rintro e w' ⟨rfl, ⟨nd, rfl⟩⟩; (try first | exact ⟨rfl, _, World.drewN_drewN _ _ _⟩ | exact ⟨rfl, _, Eq.trans (World.drewN_drewN _ _ _) (congrArg (World.drewN _) (Nat.add_assoc _ _ _))⟩)) | (go_at_call 35; (with_reducible refine (neonwrightref03_Lit.calls kp (p : Int) (lp : Int) _ HLp.out).mono ?_); rintro e w' ⟨rfl, ⟨nd, rfl⟩⟩; (try first | exact ⟨rfl, _, World.drewN_drewN _ _ _⟩ | exact ⟨rfl, _, Eq.trans (World.drewN_drewN _ _ _) (congrArg (World.drewN _) (Nat.add_assoc _ _ _))⟩))); try go_wp2_with (first | (go_at_call 23; (with_reducible refine (neonwrightref03_Covers.calls (s : Int) (p : Int) true _ HCv.out).mono ?_); rintro e w' ⟨rfl, ⟨nd, rfl⟩⟩; (try first | exact ⟨rfl, _, World.drewN_drewN _ _ _⟩ | exact ⟨rfl, _, Eq.trans (World.drewN_drewN _ _ _) (congrArg (World.drewN _) (Nat.add_assoc _ _ _))⟩)) | (go_at_call 35; (with_reducible refine (neonwrightref03_Lit.calls ks (s : Int) (ls : Int) _ HLs.out).mono ?_); rintro e w' ⟨rfl, ⟨nd, rfl⟩⟩; (try first | exact ⟨rfl, _, World.drewN_drewN _ _ _⟩ | exact ⟨rfl, _, Eq.trans (World.drewN_drewN _ _ _) (congrArg (World.drewN _) (Nat.add_assoc _ _ _))⟩)) | (go_at_call 35; (with_reducible refine (neonwrightref03_Lit.calls kp (p : Int) (lp : Int) _ HLp.out).mono ?_); rintro e w' ⟨rfl, ⟨nd, rfl⟩⟩; (try first | exact ⟨rfl, _, World.drewN_drewN _ _ _⟩ | exact ⟨rfl, _, Eq.trans (World.drewN_drewN _ _ _) (congrArg (World.drewN _) (Nat.add_assoc _ _ _))⟩))))
              go_roundw
              case rel => exact ⟨k + 1, by rw [hwk], by rw [HCt.out, wrap1 (by have := HCl.out; omega)], ⟨Hck.out⟩, ⟨by rw [HNx.out]; repeat (first | exact HSn.out | apply Seen.drewN | refine Seen.put ?_ HsT.out)⟩, ⟨by repeat (first | exact HBn.out | apply pw_below_drewN | apply below_drew1 | refine Seen.put_below (N := T) (c := T) (done := seenN N i k) (by repeat (first | exact HSn.out | apply Seen.drewN)) HsT.out ?_)⟩⟩
              case measure => rw [hwk]; have := Hck.out; simp [intOf]; omega
            · have e1 : ((ls : Int) == (K : Int)) = false := by exact beq_eq_false_iff_ne.2 (by omega)
              have e2 : (ls == K) = false := by exact beq_eq_false_iff_ne.2 hm
              rw [if_neg hm] at HCt
              clear hm
              go_wp2_with (first | (go_at_call 23; (with_reducible refine (neonwrightref03_Covers.calls (s : Int) (p : Int) true _ HCv.out).mono ?_); rintro e w' ⟨rfl, ⟨nd, rfl⟩⟩; (try first | exact ⟨rfl, _, World.drewN_drewN _ _ _⟩ | exact ⟨rfl, _, Eq.trans (World.drewN_drewN _ _ _) (congrArg (World.drewN _) (Nat.add_assoc _ _ _))⟩)) | (go_at_call 35; (with_reducible refine (neonwrightref03_Lit.calls ks (s : Int) (ls : Int) _ HLs.out).mono ?_); rintro e w' ⟨rfl, ⟨nd, rfl⟩⟩; (try first | exact ⟨rfl, _, World.drewN_drewN _ _ _⟩ | exact ⟨rfl, _, Eq.trans (World.drewN_drewN _ _ _) (congrArg (World.drewN _) (Nat.add_assoc _ _ _))⟩)) | (go_at_call 35; (with_reducible refine (neonwrightref03_Lit.calls kp (p : Int) (lp : Int) _ HLp.out).mono ?_); rintro e w' ⟨rfl, ⟨nd, rfl⟩⟩; (try first | exact ⟨rfl, _, World.drewN_drewN _ _ _⟩ | exact ⟨rfl, _, Eq.trans (World.drewN_drewN _ _ _) (congrArg (World.drewN _) (Nat.add_assoc _ _ _))⟩)))
              repeat (go_quiet (first | (go_at_call 23; (with_reducible refine (neonwrightref03_Covers.calls (s : Int) (p : Int) true _ HCv.out).mono ?_); rintro e w' ⟨rfl, ⟨nd, rfl⟩⟩; (try first | exact ⟨rfl, _, World.drewN_drewN _ _ _⟩ | exact ⟨rfl, _, Eq.trans (World.drewN_drewN _ _ _) (congrArg (World.drewN _) (Nat.add_assoc _ _ _))⟩)) | (go_at_call 35; (with_reducible refine (neonwrightref03_Lit.calls ks (s : Int) (ls : Int) _ HLs.out).mono ?_); rintro e w' ⟨rfl, ⟨nd, rfl⟩⟩; (try first | exact ⟨rfl, _, World.drewN_drewN _ _ _⟩ | exact ⟨rfl, _, Eq.trans (World.drewN_drewN _ _ _) (congrArg (World.drewN _) (Nat.add_assoc _ _ _))⟩)) | (go_at_call 35; (with_reducible refine (neonwrightref03_Lit.calls kp (p : Int) (lp : Int) _ HLp.out).mono ?_); rintro e w' ⟨rfl, ⟨nd, rfl⟩⟩; (try first | exact ⟨rfl, _, World.drewN_drewN _ _ _⟩ | exact ⟨rfl, _, Eq.trans (World.drewN_drewN _ _ _) (congrArg (World.drewN _) (Nat.add_assoc _ _ _))⟩))); try go_wp2_with (first | (go_at_call 23; (with_reducible refine (neonwrightref03_Covers.calls (s : Int) (p : Int) true _ HCv.out).mono ?_); rintro e w' ⟨rfl, ⟨nd, rfl⟩⟩; (try first | exact ⟨rfl, _, World.drewN_drewN _ _ _⟩ | exact ⟨rfl, _, Eq.trans (World.drewN_drewN _ _ _) (congrArg (World.drewN _) (Nat.add_assoc _ _ _))⟩)) | (go_at_call 35; (with_reducible refine (neonwrightref03_Lit.calls ks (s : Int) (ls : Int) _ HLs.out).mono ?_); rintro e w' ⟨rfl, ⟨nd, rfl⟩⟩; (try first | exact ⟨rfl, _, World.drewN_drewN _ _ _⟩ | exact ⟨rfl, _, Eq.trans (World.drewN_drewN _ _ _) (congrArg (World.drewN _) (Nat.add_assoc _ _ _))⟩)) | (go_at_call 35; (with_reducible refine (neonwrightref03_Lit.calls kp (p : Int) (lp : Int) _ HLp.out).mono ?_); rintro e w' ⟨rfl, ⟨nd, rfl⟩⟩; (try first | exact ⟨rfl, _, World.drewN_drewN _ _ _⟩ | exact ⟨rfl, _, Eq.trans (World.drewN_drewN _ _ _) (congrArg (World.drewN _) (Nat.add_assoc _ _ _))⟩))))
              go_roundw
              case rel => exact ⟨k + 1, by rw [hwk], by rw [HCt.out]; (try rfl); (try simp), ⟨Hck.out⟩, ⟨by rw [HNx.out]; repeat (first | exact HSn.out | apply Seen.drewN | refine Seen.put ?_ HsT.out)⟩, ⟨by repeat (first | exact HBn.out | apply pw_below_drewN | apply below_drew1 | refine Seen.put_below (N := T) (c := T) (done := seenN N i k) (by repeat (first | exact HSn.out | apply Seen.drewN)) HsT.out ?_)⟩⟩
              case measure => rw [hwk]; have := Hck.out; simp [intOf]; omega
        · have c5 : decide ((k : Int) < (ch.length : Int)) = false := decide_eq_false ck
          have c5' : decide (k < ch.length) = false := decide_eq_false (by omega)
          have hke : k = ch.length := by have := Hk.out; omega
          subst hke
          have hc1 : ((ch.take ch.length).countP fun s => popAux 12 s == K) = 1 := by
            rw [List.take_length, ← HKe.out]
            exact HPk.out.2
          rw [hc1]
          have hsr : seenN N (i + 1) 0 = seenN N i ch.length := by
            have := HChe.out
            subst this
            exact seenN_row HIc.out
          have HSr := Aside0.mk hsr
          clear hsr hc1 ck
          go_wp2
          go_roundw
          case rel => exact ⟨i + 1, by rw [wrap1 (by have := Hci.out; have := HLm.out; have := HMl.out; omega)], ⟨by have := Hci.out; omega⟩, ⟨by rw [HSr.out]; exact HSn.out⟩, HBn⟩
          case measure => rw [wrap1 (by have := Hci.out; have := HLm.out; have := HMl.out; omega)]; have := Hci.out; simp [intOf]; omega
    · have c4 : decide ((i : Int) < (l.length : Int)) = false := decide_eq_false ci
      have c4' : decide (i < l.length) = false := decide_eq_false (by omega)
      have hil : i = (chainsN N).length := by have := Hi.out; have h2 := congrArg List.length HLe.out; rw [List.length_map] at h2; omega
      have HSf := Aside0.mk (show Seen wr w3.heap.size (.slice (some ad9) T T) T (chainsN N).flatten by rw [← seenN_all, ← hil]; exact HSn.out)
      clear hil HSn ci
      go_wp2
      go_loopw [14] (fun v14 w' => ∃ s : Nat, v14 = .int .i64 (s : Int) ∧ Aside0 (s ≤ T) ∧ Aside0 (Seen w' w3.heap.size (.slice (some ad9) T T) T (chainsN N).flatten) ∧ Aside0 (Below w3.heap.size w3 w')) (fun v _ => T - (intOf v).toNat)
      case atStart => exact ⟨0, rfl, ⟨Nat.zero_le _⟩, HSf, HBn⟩
      case round =>
        clear HSf HBn
        obtain ⟨s, rfl, Hs, HSf, HBn⟩ := hrel
        by_cases cs : (s : Int) < (T : Int)
        · have c5 : decide ((s : Int) < (T : Int)) = true := decide_eq_true cs
          have c5' : decide (s < T) = true := decide_eq_true (by omega)
          have hsT : s < T := by omega
          have HsT := Aside0.mk hsT
          have q7 := eq_true cs
          have q8 := eq_true hsT
          have q9 := eq_true (show 0 ≤ (s : Int) by omega)
          obtain ⟨hx9, hf9⟩ := HSf.out.get hsT
          have hin : (chainsN N).flatten.contains s = true := by
            rw [List.contains_iff_mem]
            exact HF.out.all s (by rw [HTe.out]; exact hsT)
          rw [hin] at hx9
          clear cs hsT hin
          go_wp2
          go_roundw
          case rel => exact ⟨s + 1, by rw [wrap1 (by have := HsT.out; have := HP.out.1; omega)], ⟨HsT.out⟩, HSf, HBn⟩
          case measure => rw [wrap1 (by have := HsT.out; have := HP.out.1; omega)]; have := HsT.out; simp [intOf]; omega
        · have c5 : decide ((s : Int) < (T : Int)) = false := decide_eq_false cs
          have c5' : decide (s < T) = false := decide_eq_false (by omega)
          clear cs
          obtain ⟨⟨u1, u2⟩, hu⟩ : ∃ u, unordN (N : Int) l1 = u := ⟨_, rfl⟩
          obtain ⟨⟨v1, v2⟩, hv⟩ : ∃ v, unordN (N : Int) m = v := ⟨_, rfl⟩
          obtain ⟨nu, hnu⟩ := Ev.rounds (unord_ev (N : Int) l1)
          obtain ⟨nv, hnv⟩ := Ev.rounds (unord_ev (N : Int) m)
          rw [hu] at hnu
          rw [hv] at hnv
          have HFin := Aside0.mk (show u2 = 0 → u1 = [] → l1.length ≤ m.length from fun h1 h2 => by
            subst h1 h2
            unfold unordN at hu
            by_cases hs : signsN (N : Int) l1 = 0
            · rw [if_pos hs] at hu
              injection hu with hu1 hu2
              have := HFew.out hs hu1
              rw [← HLm.out, ← HLe.out, List.length_map]
              exact this
            · rw [if_neg hs] at hu
              injection hu with hu1 hu2
              exact absurd hu2 hs)
          have HU := Aside0.mk hnu
          have HRa := Aside0.mk (Kd.C_below HR1.out (below_step HB8.out HBn.out))
          have HRm := Aside0.mk (Kd.C_below HR7.out HBn.out)
          have HBt := Aside0.mk (below_step HB8.out HBn.out)
          by_cases hm : m.length ≤ 200
          · have e := HUm.out hm
            rw [hv] at e
            injection e with e1 e2
            subst e1 e2
            have HV := Aside0.mk hnv
            have d1 : decide ((m.length : Int) ≤ 200) = true := decide_eq_true (by omega)
            have d2 : decide (m.length ≤ 200) = true := decide_eq_true hm
            clear hu hv hnu hnv hm
            by_cases hu2 : u2 = 0
            · subst hu2
              by_cases hu1 : u1 = []
              · have f1 := HFin.out rfl hu1
                have g3 : decide ((l1.length : Int) ≤ (m.length : Int)) = true := decide_eq_true (by omega)
                have g4 : decide (l1.length ≤ m.length) = true := decide_eq_true f1
                subst hu1
                clear f1
                go_wp2_with (go_at_call 24; (with_reducible refine (code_Unordered.calls nu (N : Int) A1 c1 l1 [] 0 _ ?sd1 HC1.out HU.out).mono ?_); (case sd1 => repeat (first | exact HRa.out | (with_reducible refine Kd.C_drewN ?_ _) | (with_reducible refine Kd.C_drew ?_))); rintro _ w5 ⟨v15, rfl, hR, hb⟩; obtain ⟨A15, c15, rfl⟩ := Kd.R_slice hR; have HRn := Aside0.mk (Kd.C_below HRm.out hb); have HB10 := Aside0.mk (below_step (by repeat (first | exact HBt.out | apply pw_below_drewN | apply below_drew1)) hb); clear hR hb)
                go_wp2_with (go_at_call 24; (with_reducible refine (code_Unordered.calls nv (N : Int) A7 c7 m [] 0 _ ?sd0 HL7.out HV.out).mono ?_); (case sd0 => repeat (first | exact HRn.out | (with_reducible refine Kd.C_drewN ?_ _) | (with_reducible refine Kd.C_drew ?_))); rintro _ w6 ⟨v16, rfl, hR, hb⟩; obtain ⟨A16, c16, rfl⟩ := Kd.R_slice hR; have HB11 := Aside0.mk (below_step (by repeat (first | exact HB10.out | apply pw_below_drewN | apply below_drew1)) hb); clear hR hb)
                go_wp2_with (go_at_call 18; (refine (neonwrightlaw03_alive.calls ka true _ HKA.out).mono ?_); rintro _ w9 ⟨rfl, hb⟩; have HB9 := Aside0.mk (below_step (by repeat (first | exact HB11.out | apply pw_below_drewN | apply below_drew1)) hb); clear hb)
                go_ret
                exact ⟨rfl, HB9.out⟩
              · have hl := List.length_pos_iff.2 hu1
                obtain ⟨U, hU⟩ : ∃ U, u1.length = U := ⟨_, rfl⟩
                have g3 : ((U : Int) != 0) = true := bne_iff_ne.2 (by omega)
                have g4 : (U != 0) = true := bne_iff_ne.2 (by omega)
                clear hl hu1
                go_wp2_with (go_at_call 24; (with_reducible refine (code_Unordered.calls nu (N : Int) A1 c1 l1 u1 0 _ ?sd1 HC1.out HU.out).mono ?_); (case sd1 => repeat (first | exact HRa.out | (with_reducible refine Kd.C_drewN ?_ _) | (with_reducible refine Kd.C_drew ?_))); rintro _ w5 ⟨v15, rfl, hR, hb⟩; obtain ⟨A15, c15, rfl⟩ := Kd.R_slice hR; rw [hU]; have HRn := Aside0.mk (Kd.C_below HRm.out hb); have HB10 := Aside0.mk (below_step (by repeat (first | exact HBt.out | apply pw_below_drewN | apply below_drew1)) hb); clear hR hb)
                go_wp2_with (go_at_call 24; (with_reducible refine (code_Unordered.calls nv (N : Int) A7 c7 m [] 0 _ ?sd0 HL7.out HV.out).mono ?_); (case sd0 => repeat (first | exact HRn.out | (with_reducible refine Kd.C_drewN ?_ _) | (with_reducible refine Kd.C_drew ?_))); rintro _ w6 ⟨v16, rfl, hR, hb⟩; obtain ⟨A16, c16, rfl⟩ := Kd.R_slice hR; have HB11 := Aside0.mk (below_step (by repeat (first | exact HB10.out | apply pw_below_drewN | apply below_drew1)) hb); clear hR hb)
                go_wp2_with (go_at_call 18; (refine (neonwrightlaw03_alive.calls ka true _ HKA.out).mono ?_); rintro _ w9 ⟨rfl, hb⟩; have HB9 := Aside0.mk (below_step (by repeat (first | exact HB11.out | apply pw_below_drewN | apply below_drew1)) hb); clear hb)
                go_ret
                exact ⟨rfl, HB9.out⟩
            · have g3 : ((u2 : Int) != 0) = true := bne_iff_ne.2 hu2
              clear hu2
              go_wp2_with (go_at_call 24; (with_reducible refine (code_Unordered.calls nu (N : Int) A1 c1 l1 u1 u2 _ ?sd1 HC1.out HU.out).mono ?_); (case sd1 => repeat (first | exact HRa.out | (with_reducible refine Kd.C_drewN ?_ _) | (with_reducible refine Kd.C_drew ?_))); rintro _ w5 ⟨v15, rfl, hR, hb⟩; obtain ⟨A15, c15, rfl⟩ := Kd.R_slice hR; have HRn := Aside0.mk (Kd.C_below HRm.out hb); have HB10 := Aside0.mk (below_step (by repeat (first | exact HBt.out | apply pw_below_drewN | apply below_drew1)) hb); clear hR hb)
              go_wp2_with (go_at_call 24; (with_reducible refine (code_Unordered.calls nv (N : Int) A7 c7 m [] 0 _ ?sd0 HL7.out HV.out).mono ?_); (case sd0 => repeat (first | exact HRn.out | (with_reducible refine Kd.C_drewN ?_ _) | (with_reducible refine Kd.C_drew ?_))); rintro _ w6 ⟨v16, rfl, hR, hb⟩; obtain ⟨A16, c16, rfl⟩ := Kd.R_slice hR; have HB11 := Aside0.mk (below_step (by repeat (first | exact HB10.out | apply pw_below_drewN | apply below_drew1)) hb); clear hR hb)
              go_wp2_with (go_at_call 18; (refine (neonwrightlaw03_alive.calls ka true _ HKA.out).mono ?_); rintro _ w9 ⟨rfl, hb⟩; have HB9 := Aside0.mk (below_step (by repeat (first | exact HB11.out | apply pw_below_drewN | apply below_drew1)) hb); clear hb)
              go_ret
              exact ⟨rfl, HB9.out⟩
          · have d1 : decide ((m.length : Int) ≤ 200) = false := decide_eq_false (by omega)
            have d2 : decide (m.length ≤ 200) = false := decide_eq_false hm
            have HV := Aside0.mk hnv
            clear hu hv hnu hnv hm
            by_cases hu2 : u2 = 0
            · subst hu2
              by_cases hu1 : u1 = []
              · have f1 := HFin.out rfl hu1
                have g3 : decide ((l1.length : Int) ≤ (m.length : Int)) = true := decide_eq_true (by omega)
                have g4 : decide (l1.length ≤ m.length) = true := decide_eq_true f1
                subst hu1
                clear f1
                go_wp2_with (go_at_call 24; (with_reducible refine (code_Unordered.calls nu (N : Int) A1 c1 l1 [] 0 _ ?sd1 HC1.out HU.out).mono ?_); (case sd1 => repeat (first | exact HRa.out | (with_reducible refine Kd.C_drewN ?_ _) | (with_reducible refine Kd.C_drew ?_))); rintro _ w5 ⟨v15, rfl, hR, hb⟩; obtain ⟨A15, c15, rfl⟩ := Kd.R_slice hR; have HRn := Aside0.mk (Kd.C_below HRm.out hb); have HB10 := Aside0.mk (below_step (by repeat (first | exact HBt.out | apply pw_below_drewN | apply below_drew1)) hb); clear hR hb)
                go_wp2_with (go_at_call 24; (with_reducible refine (code_Unordered.calls nv (N : Int) A7 c7 m v1 v2 _ ?sd0 HL7.out HV.out).mono ?_); (case sd0 => repeat (first | exact HRn.out | (with_reducible refine Kd.C_drewN ?_ _) | (with_reducible refine Kd.C_drew ?_))); rintro _ w6 ⟨v16, rfl, hR, hb⟩; obtain ⟨A16, c16, rfl⟩ := Kd.R_slice hR; have HB11 := Aside0.mk (below_step (by repeat (first | exact HB10.out | apply pw_below_drewN | apply below_drew1)) hb); clear hR hb)
                go_wp2_with (go_at_call 18; (refine (neonwrightlaw03_alive.calls ka true _ HKA.out).mono ?_); rintro _ w9 ⟨rfl, hb⟩; have HB9 := Aside0.mk (below_step (by repeat (first | exact HB11.out | apply pw_below_drewN | apply below_drew1)) hb); clear hb)
                go_ret
                exact ⟨rfl, HB9.out⟩
              · have hl := List.length_pos_iff.2 hu1
                obtain ⟨U, hU⟩ : ∃ U, u1.length = U := ⟨_, rfl⟩
                have g3 : ((U : Int) != 0) = true := bne_iff_ne.2 (by omega)
                have g4 : (U != 0) = true := bne_iff_ne.2 (by omega)
                clear hl hu1
                go_wp2_with (go_at_call 24; (with_reducible refine (code_Unordered.calls nu (N : Int) A1 c1 l1 u1 0 _ ?sd1 HC1.out HU.out).mono ?_); (case sd1 => repeat (first | exact HRa.out | (with_reducible refine Kd.C_drewN ?_ _) | (with_reducible refine Kd.C_drew ?_))); rintro _ w5 ⟨v15, rfl, hR, hb⟩; obtain ⟨A15, c15, rfl⟩ := Kd.R_slice hR; rw [hU]; have HRn := Aside0.mk (Kd.C_below HRm.out hb); have HB10 := Aside0.mk (below_step (by repeat (first | exact HBt.out | apply pw_below_drewN | apply below_drew1)) hb); clear hR hb)
                go_wp2_with (go_at_call 24; (with_reducible refine (code_Unordered.calls nv (N : Int) A7 c7 m v1 v2 _ ?sd0 HL7.out HV.out).mono ?_); (case sd0 => repeat (first | exact HRn.out | (with_reducible refine Kd.C_drewN ?_ _) | (with_reducible refine Kd.C_drew ?_))); rintro _ w6 ⟨v16, rfl, hR, hb⟩; obtain ⟨A16, c16, rfl⟩ := Kd.R_slice hR; have HB11 := Aside0.mk (below_step (by repeat (first | exact HB10.out | apply pw_below_drewN | apply below_drew1)) hb); clear hR hb)
                go_wp2_with (go_at_call 18; (refine (neonwrightlaw03_alive.calls ka true _ HKA.out).mono ?_); rintro _ w9 ⟨rfl, hb⟩; have HB9 := Aside0.mk (below_step (by repeat (first | exact HB11.out | apply pw_below_drewN | apply below_drew1)) hb); clear hb)
                go_ret
                exact ⟨rfl, HB9.out⟩
            · have g3 : ((u2 : Int) != 0) = true := bne_iff_ne.2 hu2
              clear hu2
              go_wp2_with (go_at_call 24; (with_reducible refine (code_Unordered.calls nu (N : Int) A1 c1 l1 u1 u2 _ ?sd1 HC1.out HU.out).mono ?_); (case sd1 => repeat (first | exact HRa.out | (with_reducible refine Kd.C_drewN ?_ _) | (with_reducible refine Kd.C_drew ?_))); rintro _ w5 ⟨v15, rfl, hR, hb⟩; obtain ⟨A15, c15, rfl⟩ := Kd.R_slice hR; have HRn := Aside0.mk (Kd.C_below HRm.out hb); have HB10 := Aside0.mk (below_step (by repeat (first | exact HBt.out | apply pw_below_drewN | apply below_drew1)) hb); clear hR hb)
              go_wp2_with (go_at_call 24; (with_reducible refine (code_Unordered.calls nv (N : Int) A7 c7 m v1 v2 _ ?sd0 HL7.out HV.out).mono ?_); (case sd0 => repeat (first | exact HRn.out | (with_reducible refine Kd.C_drewN ?_ _) | (with_reducible refine Kd.C_drew ?_))); rintro _ w6 ⟨v16, rfl, hR, hb⟩; obtain ⟨A16, c16, rfl⟩ := Kd.R_slice hR; have HB11 := Aside0.mk (below_step (by repeat (first | exact HB10.out | apply pw_below_drewN | apply below_drew1)) hb); clear hR hb)
              go_wp2_with (go_at_call 18; (refine (neonwrightlaw03_alive.calls ka true _ HKA.out).mono ?_); rintro _ w9 ⟨rfl, hb⟩; have HB9 := Aside0.mk (below_step (by repeat (first | exact HB11.out | apply pw_below_drewN | apply below_drew1)) hb); clear hb)
              go_ret
              exact ⟨rfl, HB9.out⟩
theorem neonwrightlaw03_CodeSperner.calls (k : Nat) (a0 : Int) (A1 : Option Addr) (c1 : Nat) (l1 : List Int) (r : Bool) (w : World) (hr1 : Kd.C (Kd.int .i64) w A1 l1.length l1) (hc1 : l1.length ≤ c1) (h : neonwrightlaw03_CodeSperner.f k a0 l1 = some r) :
    Calls Try.prog 10 #[.int .i64 a0, .slice A1 l1.length c1] w fun e w' => e = .returned (.bool r) ∧ Below w.heap.size w w' := by
  obtain rfl : true = r := Option.some.inj h
  by_cases c3 : (l1.length : Int) > 300
  · exact sperner_long a0 A1 c1 l1 w c3
  · by_cases hn : 1 ≤ a0 ∧ a0 ≤ 12
    · obtain ⟨N, rfl⟩ := Int.eq_ofNat_of_zero_le (show 0 ≤ a0 by omega)
      exact sperner_main N (by omega) (by omega) A1 c1 l1 w hr1 hc1 c3
    · exact sperner_arg a0 A1 c1 l1 w c3 hn
def neonwrightlaw03_CodeSperner.Pure : Prop := ∀ (a0 : Int) (l1 : List Int), (Lit.int .i64 a0).wf = true → l1.length ≤ maxLen → l1.length * 8 ≤ 140737488351232 → (∀ x ∈ l1, (Lit.int .i64 x).wf = true) → ∃ k, neonwrightlaw03_CodeSperner.f k a0 l1 = some true
theorem neonwrightlaw03_CodeSperner.walk (P : neonwrightlaw03_CodeSperner.Pure) (a0 : Int) (a1 : Option Addr) (len1 cap1 : Nat) (z1 : List Int) (w : World) (w0 : (Lit.int .i64 a0).wf = true) (w1 : (a1 = none ∧ len1 = 0 ∧ cap1 = 0 ∧ z1 = []) ∨ ∃ x, a1 = some x ∧ len1 ≤ cap1 ∧ cap1 ≤ maxLen ∧ z1.length = cap1 ∧ (∀ i, i < z1.length → w.cell? (x.add i) = some (.int .i64 (z1.getD i 0))) ∧ ∀ n ∈ z1, (Lit.int .i64 n).wf = true) (y1 : len1 * 8 ≤ 140737488351232) :
    Calls Try.prog 10 #[.int .i64 a0, .slice a1 len1 cap1] w fun e w' => e = .returned (.bool true) ∧ Below w.heap.size w w' := by
  obtain ⟨l1, rfl, hr1, hm1, hw1, hc1⟩ := ReadsInt.ofRowC w1
  obtain ⟨k, h⟩ := P a0 l1 w0 hm1 y1 hw1
  refine (neonwrightlaw03_CodeSperner.calls k a0 _ _ l1 true w (Kd.C_of_reads (d := (0 : Int)) (h1 := fun _ => rfl) hr1) hc1 h).mono ?_
  rintro e w' ⟨rfl, hd⟩
  exact ⟨rfl, hd⟩
end Go.Proofs.Ytgchhheajngbfaa.P
