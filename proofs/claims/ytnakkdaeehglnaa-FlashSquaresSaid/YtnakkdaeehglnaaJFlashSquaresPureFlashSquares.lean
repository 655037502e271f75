/- Of four states that differ only in two given tubes at most three are in a snake, or in a coil that has more than four states (beyond 600 states the statement asks the closed example alone). -/
import Derived.Test.YtnakkdaeehglnaaJFlashSquares1
set_option linter.unusedSimpArgs false
set_option linter.unusedVariables false
namespace Go.Proofs.Ytnakkdaeehglnaa.Pure
open Go.Lib Go.RowKit Go.Proofs.YtnakkdaeehglnaaW.PrintWords Go.Proofs.YtnakkdaeehglnaaW.PrintMore Go.Proofs.Ytnakkdaeehglnaa.Kit Go.Proofs.Ytnakkdaeehglnaa.P

theorem pow2_inj {a b : Nat} (h : 2 ^ a = 2 ^ b) : a = b := by
  rcases Nat.lt_trichotomy a b with h1 | h1 | h1
  · have := Nat.pow_lt_pow_right (a := 2) (by decide) h1; omega
  · exact h1
  · have := Nat.pow_lt_pow_right (a := 2) (by decide) h1; omega
/-- At how many of d places from j on something is so. -/
def cntF (p : Nat → Bool) : Nat → Nat → Nat
  | 0, _ => 0
  | d + 1, j => (if p j = true then 1 else 0) + cntF p d (j + 1)
theorem cnt_add {p q r : Nat → Bool} (h : ∀ x, p x = true → q x = true ∨ r x = true) : ∀ d j, cntF p d j ≤ cntF q d j + cntF r d j := by
  intro d
  induction d with
  | zero => intro j; exact Nat.le_refl _
  | succ d ih =>
    intro j
    have := ih (j + 1)
    unfold cntF
    by_cases hp : p j = true
    · rcases h j hp with h1 | h1
      · rw [if_pos hp, if_pos h1]; omega
      · rw [if_pos hp, if_pos h1]; split <;> omega
    · rw [if_neg hp]; split <;> split <;> omega
theorem cnt_pos {p : Nat → Bool} : ∀ d j, 0 < cntF p d j → ∃ x, j ≤ x ∧ x < j + d ∧ p x = true := by
  intro d
  induction d with
  | zero => intro j h; exact absurd h (by unfold cntF; omega)
  | succ d ih =>
    intro j h
    unfold cntF at h
    by_cases hp : p j = true
    · exact ⟨j, Nat.le_refl _, by omega, hp⟩
    · rw [if_neg hp] at h
      obtain ⟨x, h1, h2, h3⟩ := ih (j + 1) (by omega)
      exact ⟨x, by omega, by omega, h3⟩
theorem cnt_uniq {p : Nat → Bool} {m : Nat} (h : ∀ x y, x < m → y < m → p x = true → p y = true → x = y) : ∀ d j, j + d ≤ m → cntF p d j ≤ 1 := by
  intro d
  induction d with
  | zero => intro j _; exact Nat.zero_le _
  | succ d ih =>
    intro j hj
    have h1 := ih (j + 1) (by omega)
    unfold cntF
    by_cases hp : p j = true
    · rw [if_pos hp]
      rcases Nat.eq_zero_or_pos (cntF p d (j + 1)) with h0 | h0
      · omega
      · obtain ⟨x, h2, h3, h4⟩ := cnt_pos d (j + 1) h0
        have := h j x (by omega) (by omega) hp h4
        omega
    · rw [if_neg hp]; omega
theorem adj_of {l : List Int} {r : Bool} (h : snakeB l r = true) {p q : Nat} (hp : p < l.length) (hq : q < l.length) (hne : p ≠ q) (hn : nx (rd l (p : Int)) (rd l (q : Int)) = true) :
    q = p + 1 ∨ p = q + 1 ∨ (r = true ∧ ((p = 0 ∧ q = l.length - 1) ∨ (q = 0 ∧ p = l.length - 1))) := by
  have key : ∀ a b, a < l.length → b < l.length → a + 2 ≤ b → nx (rd l (a : Int)) (rd l (b : Int)) = true → r = true ∧ a = 0 ∧ b = l.length - 1 := by
    intro a b ha hb hab hnn
    unfold snakeB at h
    have h1 := (okFrom_iff _ _ _).1 h a (by omega) (by omega)
    have h2 := (okFrom_iff _ _ _).1 h1 b (by omega) (by omega)
    unfold pairOk at h2
    rw [hnn] at h2
    simp at h2
    exact ⟨h2.1.1, h2.1.2, h2.2⟩
  by_cases h1 : p + 2 ≤ q
  · have := key p q hp hq h1 hn; exact .inr (.inr ⟨this.1, .inl this.2⟩)
  · by_cases h2 : q + 2 ≤ p
    · rw [nx_comm] at hn
      have := key q p hq hp h2 hn; exact .inr (.inr ⟨this.1, .inr this.2⟩)
    · omega
theorem path_inj {l : List Int} (h : pathB l = true) {p q : Nat} (hp : p < l.length) (hq : q < l.length) (e : rd l (p : Int) = rd l (q : Int)) : p = q := by
  have key : ∀ a b, a < b → b < l.length → rd l (a : Int) ≠ rd l (b : Int) := by
    intro a b hab hb e
    unfold pathB at h
    have h1 := List.all_eq_true.1 h b (List.mem_range.2 hb)
    unfold pStep at h1
    rw [Bool.and_eq_true, Bool.not_eq_true', Bool.eq_false_iff] at h1
    apply h1.1
    rw [List.contains_iff_mem, List.mem_take_iff_getElem]
    refine ⟨a, by omega, ?_⟩
    rw [rd_get l a (by omega)] at e
    exact e
  rcases Nat.lt_trichotomy p q with h1 | h1 | h1
  · exact absurd e (key p q h1 hq)
  · exact h1
  · exact absurd e.symm (key q p h1 hp)
theorem two_sum : ∀ a b : Fin 12, a ≠ b → 2 ^ a.val + 2 ^ b.val = 2 ^ a.val ^^^ 2 ^ b.val := by decide +kernel
/-- The state p differs from the state i just in v. -/
def diffB (l : List Int) (i v p : Nat) : Bool := decide ((rd l (i : Int)).toNat ^^^ (rd l (p : Int)).toNat = v)
def nearF (l : List Int) (i x y p : Nat) : Bool := diffB l i 0 p || diffB l i x p || diffB l i y p || diffB l i (x + y) p
theorem xor_move {a b v : Nat} (h : a ^^^ b = v) : b = a ^^^ v := by rw [← h, ← Nat.xor_assoc, Nat.xor_self, Nat.zero_xor]
set_option maxHeartbeats 2000000 in
theorem square {n : Nat} {l : List Int} (h : Fine n l) (hp : pathB l = true) (hs : snakeB l false = true ∨ (closedB l = true ∧ snakeB l true = true ∧ l.length ≠ 4)) {a b : Nat} (ha : a < 12) (hb : b < 12) (hab : a ≠ b) (i : Nat) (hi : i < l.length) :
    cntF (nearF l i (2 ^ a) (2 ^ b)) l.length 0 ≤ 3 := by
  have hsum := two_sum ⟨a, ha⟩ ⟨b, hb⟩ (fun e => hab (Fin.mk.inj_iff.1 e))
  simp only at hsum
  have uniq : ∀ v, cntF (diffB l i v) l.length 0 ≤ 1 := by
    intro v
    refine cnt_uniq (m := l.length) (fun x y hx hy h1 h2 => ?_) _ _ (by omega)
    have h1 := xor_move (of_decide_eq_true h1)
    have h2 := xor_move (of_decide_eq_true h2)
    have r1 := h.rd x hx
    have r2 := h.rd y hy
    exact path_inj hp hx hy (by omega)
  rcases Nat.lt_or_ge 3 (cntF (nearF l i (2 ^ a) (2 ^ b)) l.length 0) with h4 | h4
  case inr => exact h4
  have s1 := cnt_add (p := nearF l i (2 ^ a) (2 ^ b)) (q := fun p => diffB l i 0 p || diffB l i (2 ^ a) p || diffB l i (2 ^ b) p) (r := diffB l i (2 ^ a + 2 ^ b)) (fun x hx => by unfold nearF at hx; rw [Bool.or_eq_true] at hx; exact hx) l.length 0
  have s2 := cnt_add (p := fun p => diffB l i 0 p || diffB l i (2 ^ a) p || diffB l i (2 ^ b) p) (q := fun p => diffB l i 0 p || diffB l i (2 ^ a) p) (r := diffB l i (2 ^ b)) (fun x hx => by rw [Bool.or_eq_true] at hx; exact hx) l.length 0
  have s3 := cnt_add (p := fun p => diffB l i 0 p || diffB l i (2 ^ a) p) (q := diffB l i 0) (r := diffB l i (2 ^ a)) (fun x hx => by rw [Bool.or_eq_true] at hx; exact hx) l.length 0
  have u0 := uniq 0
  have u1 := uniq (2 ^ a)
  have u2 := uniq (2 ^ b)
  have u3 := uniq (2 ^ a + 2 ^ b)
  obtain ⟨px, _, hx, e1⟩ := cnt_pos (p := diffB l i (2 ^ a)) l.length 0 (by omega)
  obtain ⟨py, _, hy, e2⟩ := cnt_pos (p := diffB l i (2 ^ b)) l.length 0 (by omega)
  obtain ⟨pz, _, hz, e3⟩ := cnt_pos (p := diffB l i (2 ^ a + 2 ^ b)) l.length 0 (by omega)
  have hx : px < l.length := by omega
  have hy : py < l.length := by omega
  have hz : pz < l.length := by omega
  have e1' := of_decide_eq_true e1
  have e2' := of_decide_eq_true e2
  have e3' := of_decide_eq_true e3
  have f1 := xor_move e1'
  have f2 := xor_move e2'
  have f3 := xor_move e3'
  rw [hsum] at f3 e3'
  have pa : 2 ^ a ≠ 0 := Nat.pos_iff_ne_zero.1 (Nat.two_pow_pos a)
  have pb : 2 ^ b ≠ 0 := Nat.pos_iff_ne_zero.1 (Nat.two_pow_pos b)
  have pab : 2 ^ a ≠ 2 ^ b := fun e => hab (pow2_inj e)
  generalize hv : (rd l (i : Int)).toNat = v at e1' e2' e3' f1 f2 f3
  have ri := h.rd i hi
  have rx := h.rd px hx
  have ry := h.rd py hy
  have rz := h.rd pz hz
  have inj0 : ∀ u w : Nat, v ^^^ u = v ^^^ w → u = w := fun u w e => by
    have h3 : v ^^^ (v ^^^ u) = v ^^^ (v ^^^ w) := by rw [e]
    rw [← Nat.xor_assoc, ← Nat.xor_assoc, Nat.xor_self, Nat.zero_xor, Nat.zero_xor] at h3
    exact h3
  have n1 : i ≠ px := by
    rintro rfl
    rw [hv] at e1'
    rw [Nat.xor_self] at e1'
    exact pa e1'.symm
  have n2 : i ≠ py := by
    rintro rfl
    rw [hv] at e2'
    rw [Nat.xor_self] at e2'
    exact pb e2'.symm
  have n3 : px ≠ py := by
    rintro rfl
    exact pab (e1'.symm.trans e2')
  have n4 : px ≠ pz := by
    rintro rfl
    have e : 2 ^ a = 2 ^ a ^^^ 2 ^ b := e1'.symm.trans e3'
    have h3 : 2 ^ a ^^^ 2 ^ a = 2 ^ a ^^^ (2 ^ a ^^^ 2 ^ b) := by rw [← e]
    rw [← Nat.xor_assoc, Nat.xor_self, Nat.zero_xor] at h3
    exact pb h3.symm
  have n5 : py ≠ pz := by
    rintro rfl
    have e : 2 ^ b = 2 ^ a ^^^ 2 ^ b := e2'.symm.trans e3'
    have h3 : 2 ^ b ^^^ 2 ^ b = (2 ^ a ^^^ 2 ^ b) ^^^ 2 ^ b := by rw [← e]
    rw [Nat.xor_assoc, Nat.xor_self, Nat.xor_zero] at h3
    exact pa h3.symm
  have n6 : i ≠ pz := by
    rintro rfl
    rw [hv, Nat.xor_self] at e3'
    have h3 : 2 ^ a ^^^ 0 = 2 ^ a ^^^ (2 ^ a ^^^ 2 ^ b) := by rw [← e3']
    rw [← Nat.xor_assoc, Nat.xor_self, Nat.zero_xor, Nat.xor_zero] at h3
    exact pab h3
  have a1 : nx (rd l (i : Int)) (rd l (px : Int)) = true := by rw [nx_one ri rx, hv, e1']; exact one_pow a
  have a2 : nx (rd l (i : Int)) (rd l (py : Int)) = true := by rw [nx_one ri ry, hv, e2']; exact one_pow b
  have a3 : nx (rd l (px : Int)) (rd l (pz : Int)) = true := by
    rw [nx_one rx rz, f1, f3, show (v ^^^ 2 ^ a) ^^^ (v ^^^ (2 ^ a ^^^ 2 ^ b)) = 2 ^ b from by
      rw [Nat.xor_comm v (2 ^ a), Nat.xor_assoc, ← Nat.xor_assoc v v, Nat.xor_self, Nat.zero_xor, ← Nat.xor_assoc, Nat.xor_self, Nat.zero_xor]]
    exact one_pow b
  have a4 : nx (rd l (py : Int)) (rd l (pz : Int)) = true := by
    rw [nx_one ry rz, f2, f3, show (v ^^^ 2 ^ b) ^^^ (v ^^^ (2 ^ a ^^^ 2 ^ b)) = 2 ^ a from by
      rw [Nat.xor_comm v (2 ^ b), Nat.xor_assoc, ← Nat.xor_assoc v v, Nat.xor_self, Nat.zero_xor, Nat.xor_comm (2 ^ a), ← Nat.xor_assoc, Nat.xor_self, Nat.zero_xor]]
    exact one_pow a
  rcases hs with hs | ⟨hc, hs, hl4⟩
  · have b1 := adj_of hs hi hx n1 a1
    have b2 := adj_of hs hi hy n2 a2
    have b3 := adj_of hs hx hz n4 a3
    have b4 := adj_of hs hy hz n5 a4
    simp only [Bool.false_eq_true, false_and, or_false] at b1 b2 b3 b4
    omega
  · have b1 := adj_of hs hi hx n1 a1
    have b2 := adj_of hs hi hy n2 a2
    have b3 := adj_of hs hx hz n4 a3
    have b4 := adj_of hs hy hz n5 a4
    simp only [true_and] at b1 b2 b3 b4
    unfold closedB at hc
    rw [Bool.and_eq_true] at hc
    have := of_decide_eq_true hc.1
    omega
set_option maxHeartbeats 2000000 in
theorem squares_l1 {n : Nat} {l : List Int} (h : Fine n l) (x y : Nat) (hx : x < 4096) (hy : y < 4096) (i : Nat) (hi : i < l.length) (hR : Ev (fun k => neonwrightlaw04_FlashSquares.l0 k l (x : Int) (y : Int) ((i + 1 : Nat) : Int)) true) :
    ∀ d j m, l.length - j = d → j ≤ l.length → m ≤ j → m + cntF (nearF l i x y) d j ≤ 3 → Ev (fun k => neonwrightlaw04_FlashSquares.l1 k l (x : Int) (y : Int) (i : Int) (m : Int) (j : Int)) true := by
  have hl := h.le
  intro d
  induction d with
  | zero =>
    intro j m hd hj hm hc
    replace hc : m ≤ 3 := hc
    refine Ev.step (f := fun k => neonwrightlaw04_FlashSquares.l0 k l (x : Int) (y : Int) ((i + 1 : Nat) : Int)) (fun k => ?_) hR
    simp only [neonwrightlaw04_FlashSquares.l1]
    rw [if_neg (by omega), if_neg (by omega), w64 (x := (i : Int) + 1) (by omega) (by omega)]
    rfl
  | succ d ih =>
    intro j m hd hj hm hc
    have hjl : j < l.length := by clear hc; omega
    have e1 : l.length - (j + 1) = d := by clear hc; omega
    have e2 : j + 1 ≤ l.length := by clear hc; omega
    have hw : wrap64 ((j : Int) + 1) = ((j + 1 : Nat) : Int) := by clear hc; rw [w64 (by omega) (by omega)]; rfl
    have hm1 : wrap64 ((m : Int) + 1) = ((m + 1 : Nat) : Int) := by clear hc; rw [w64 (by omega) (by omega)]; rfl
    have hxy : wrap64 ((x : Int) + (y : Int)) = ((x + y : Nat) : Int) := by clear hc; rw [w64 (by omega) (by omega)]; rfl
    have ri := h.rd i hi
    have rj := h.rd j hjl
    have hbx : Go.bits .xor .i64 (rd l (i : Int)) (rd l (j : Int)) = (((rd l (i : Int)).toNat ^^^ (rd l (j : Int)).toNat : Nat) : Int) := by
      clear hc
      have := xor64 (rd l (i : Int)).toNat (rd l (j : Int)).toNat (by omega) (by omega)
      rw [show (((rd l (i : Int)).toNat : Nat) : Int) = rd l (i : Int) from by omega, show (((rd l (j : Int)).toNat : Nat) : Int) = rd l (j : Int) from by omega] at this
      exact this
    unfold cntF at hc
    obtain ⟨m', hm'⟩ : ∃ m', m' = if nearF l i x y j = true then m + 1 else m := ⟨_, rfl⟩
    have hc2 : m' ≤ j + 1 ∧ m' + cntF (nearF l i x y) d (j + 1) ≤ 3 := by
      generalize cntF (nearF l i x y) d (j + 1) = C at hc ⊢
      clear ih hR hbx ri rj hxy hm1 hw
      generalize nearF l i x y j = b at hc hm'
      cases b with
      | true =>
        rw [if_pos rfl] at hc hm'
        omega
      | false =>
        rw [if_neg (by decide)] at hc hm'
        omega
    have hih := ih (j + 1) m' e1 e2 hc2.1 hc2.2
    refine Ev.step (f := fun k => neonwrightlaw04_FlashSquares.l1 k l (x : Int) (y : Int) (i : Int) (m' : Int) ((j + 1 : Nat) : Int)) (fun k => ?_) hih
    clear hih ih hc2 hc
    simp only [neonwrightlaw04_FlashSquares.l1]
    have g1 : (j : Int) < (l.length : Int) := by clear hm'; omega
    have g2 : (0 : Int) ≤ (i : Int) := by clear hm'; omega
    have g3 : (i : Int) < (l.length : Int) := by clear hm'; omega
    have g4 : (0 : Int) ≤ (j : Int) := by clear hm'; omega
    rw [if_pos g1, if_pos g2, if_pos g3, if_pos g4, hbx, hw, hm1, hxy]
    unfold nearF diffB at hm'
    generalize (rd l (i : Int)).toNat ^^^ (rd l (j : Int)).toNat = v at hm' ⊢
    clear hbx ri rj
    by_cases c0 : v = 0
    · have hq : m' = m + 1 := by rw [hm', if_pos (by simp [c0])]
      clear hm' h hR hw hm1 hxy hl
      rw [if_pos (by omega), hq]
    · by_cases c1 : v = x
      · have hq : m' = m + 1 := by rw [hm', if_pos (by simp [c1])]
        clear hm' h hR hw hm1 hxy hl
        rw [if_neg (by omega), if_pos (by omega), hq]
      · by_cases c2 : v = y
        · have hq : m' = m + 1 := by rw [hm', if_pos (by simp [c2])]
          clear hm' h hR hw hm1 hxy hl
          rw [if_neg (by omega), if_neg (by omega), if_pos (by omega), hq]
        · by_cases c3 : v = x + y
          · have hq : m' = m + 1 := by rw [hm', if_pos (by simp [c3])]
            clear hm' h hR hw hm1 hxy hl
            rw [if_neg (by omega), if_neg (by omega), if_neg (by omega), if_pos (by omega), hq]
          · have hq : m' = m := by rw [hm', if_neg (by simp [c0, c1, c2, c3])]
            clear hm' h hR hw hm1 hxy hl
            rw [if_neg (by omega), if_neg (by omega), if_neg (by omega), if_neg (by omega), hq]
theorem squares_l0 {n : Nat} {l : List Int} (h : Fine n l) (hp : pathB l = true) (hs : snakeB l false = true ∨ (closedB l = true ∧ snakeB l true = true ∧ l.length ≠ 4)) {a b : Nat} (ha : a < 12) (hb : b < 12) (hab : a ≠ b) :
    ∀ d i, l.length - i = d → i ≤ l.length → Ev (fun k => neonwrightlaw04_FlashSquares.l0 k l ((2 ^ a : Nat) : Int) ((2 ^ b : Nat) : Int) (i : Int)) true := by
  have pa : 2 ^ a ≤ 2 ^ 11 := Nat.pow_le_pow_right (by decide) (by omega)
  have pb : 2 ^ b ≤ 2 ^ 11 := Nat.pow_le_pow_right (by decide) (by omega)
  have pa' : 2 ^ a ≤ 2048 := pa
  have pb' : 2 ^ b ≤ 2048 := pb
  intro d
  induction d with
  | zero =>
    intro i hd hi
    refine Ev.step (f := fun k => (neonwrightlaw04_alive.f k).bind fun t205 => (some t205)) (fun k => ?_) (Ev.bnd alive_ev (Ev.now true))
    simp only [neonwrightlaw04_FlashSquares.l0]
    rw [if_neg (by omega)]
  | succ d ih =>
    intro i hd hi
    have h1 := squares_l1 h (2 ^ a) (2 ^ b) (by omega) (by omega) i (by omega) (ih (i + 1) (by omega) (by omega)) l.length 0 0 (by omega) (by omega) (by omega) (by rw [Nat.zero_add]; exact square h hp hs ha hb hab i (by omega))
    refine Ev.step (f := fun k => neonwrightlaw04_FlashSquares.l1 k l ((2 ^ a : Nat) : Int) ((2 ^ b : Nat) : Int) (i : Int) ((0 : Nat) : Int) ((0 : Nat) : Int)) (fun k => ?_) h1
    simp only [neonwrightlaw04_FlashSquares.l0]
    rw [if_pos (by omega)]
    rfl
theorem squares_j0 (n : Int) (l : List Int) (a b : Nat) (ha : a ≤ 255) (hb : b ≤ 255) (x : Bool) (hx : x = false → ∃ m : Nat, n = m ∧ Fine m l ∧ 2 ≤ m ∧ pathB l = true ∧ (snakeB l false = true ∨ (closedB l = true ∧ snakeB l true = true ∧ l.length ≠ 4))) :
    Ev (fun k => neonwrightlaw04_FlashSquares.j0 k n l (a : Int) (b : Int) x) true := by
  cases x with
  | true =>
    refine Ev.step (f := fun k => (neonwrightlaw04_alive.f k).bind fun t203 => (some t203)) (fun k => ?_) (Ev.bnd alive_ev (Ev.now true))
    simp only [neonwrightlaw04_FlashSquares.j0]; rfl
  | false =>
    obtain ⟨m, rfl, hf, h2, hp, hs⟩ := hx rfl
    have hm := hf.n2
    have ea : Int.tmod (wrap64 (a : Int)) (m : Int) = ((a % m : Nat) : Int) := by rw [w64n _ (by omega), tmodn]
    have eb : Int.tmod (wrap64 (b : Int)) (m : Int) = ((b % m : Nat) : Int) := by rw [w64n _ (by omega), tmodn]
    have la := Nat.mod_lt a (y := m) (by omega)
    have lb := Nat.mod_lt b (y := m) (by omega)
    by_cases hab : a % m = b % m
    · refine Ev.step (f := fun k => (neonwrightlaw04_alive.f k).bind fun t204 => (some t204)) (fun k => ?_) (Ev.bnd alive_ev (Ev.now true))
      simp only [neonwrightlaw04_FlashSquares.j0]
      rw [if_neg (by decide), if_neg (by omega), ea, eb, if_pos (by omega), if_pos (by omega), if_pos (by rw [hab])]
    · have h1 := squares_l0 hf hp hs (a := a % m) (b := b % m) (by omega) (by omega) hab l.length 0 (by omega) (by omega)
      have hne : 2 ^ (a % m) ≠ 2 ^ (b % m) := fun e => hab (pow2_inj e)
      refine Ev.step (f := fun k => neonwrightlaw04_FlashSquares.l0 k l ((2 ^ (a % m) : Nat) : Int) ((2 ^ (b % m) : Nat) : Int) ((0 : Nat) : Int)) (fun k => ?_) h1
      simp only [neonwrightlaw04_FlashSquares.j0]
      rw [if_neg (by decide), if_neg (by omega), ea, eb, if_pos (by omega), if_pos (by omega), shl1n (by omega), shl1n (by omega), if_neg (by omega)]
      rfl
theorem FlashSquares : neonwrightlaw04_FlashSquares.Pure := by
  intro n l a b _ _ _ _ ha hb
  have ha := castu8 ha
  have hb := castu8 hb
  obtain ⟨a, rfl⟩ : ∃ m : Nat, a = m := ⟨a.toNat, by omega⟩
  obtain ⟨b, rfl⟩ : ∃ m : Nat, b = m := ⟨b.toNat, by omega⟩
  refine Ev.rounds (g := fun k => neonwrightlaw04_FlashSquares.f k n l (a : Int) (b : Int)) ?_
  have jt := squares_j0 n l a b (by omega) (by omega) true (fun e => by cases e)
  by_cases h : (l.length : Int) ≤ 600
  · refine Ev.congr (f := fun k => ((flash_Snake.f k n l).bind fun bt200 => (if bt200.2.2 = 0 then (if bt200.1 = true then (if (l.length : Int) = 4 then (if bt200.2.1 = true then (neonwrightlaw04_FlashSquares.j0 k n l (a : Int) (b : Int) true) else (neonwrightlaw04_FlashSquares.j0 k n l (a : Int) (b : Int) (decide (n < 2)))) else (neonwrightlaw04_FlashSquares.j0 k n l (a : Int) (b : Int) (decide (n < 2)))) else (if bt200.2.1 = true then (if (l.length : Int) = 4 then (neonwrightlaw04_FlashSquares.j0 k n l (a : Int) (b : Int) true) else (neonwrightlaw04_FlashSquares.j0 k n l (a : Int) (b : Int) (decide (n < 2)))) else (neonwrightlaw04_FlashSquares.j0 k n l (a : Int) (b : Int) true))) else (neonwrightlaw04_FlashSquares.j0 k n l (a : Int) (b : Int) true)))) (fun k => ?_) (Ev.bnd (snakeR_ev n l) ?_)
    · show neonwrightlaw04_FlashSquares.f k n l (a : Int) (b : Int) = _
      unfold neonwrightlaw04_FlashSquares.f neonwrightlaw04_few.f
      rw [decide_eq_true h, Option.bind_some, if_pos rfl]
    · unfold snakeR
      by_cases hz : listedN n l = 0
      · obtain ⟨m, rfl, hf⟩ := listedN_fine hz
        rw [if_pos hz]
        refine Ev.pos rfl ?_
        have jd : pathB l = true → (snakeB l false = true ∨ (closedB l = true ∧ snakeB l true = true ∧ l.length ≠ 4)) → Ev (fun k => neonwrightlaw04_FlashSquares.j0 k (m : Int) l (a : Int) (b : Int) (decide ((m : Int) < 2))) true :=
          fun hp hs => squares_j0 (m : Int) l a b (by omega) (by omega) _ (fun e => ⟨m, rfl, hf, by have := of_decide_eq_false e; omega, hp, hs⟩)
        by_cases hs : (pathB l && snakeB l false) = true
        · refine Ev.pos hs ?_
          rw [Bool.and_eq_true] at hs
          by_cases h4 : (l.length : Int) = 4
          · refine Ev.pos h4 ?_
            by_cases hc : (pathB l && closedB l && snakeB l true) = true
            · exact Ev.pos hc jt
            · exact Ev.neg hc (jd hs.1 (.inl hs.2))
          · exact Ev.neg h4 (jd hs.1 (.inl hs.2))
        · refine Ev.neg hs ?_
          by_cases hc : (pathB l && closedB l && snakeB l true) = true
          · refine Ev.pos hc ?_
            rw [Bool.and_eq_true, Bool.and_eq_true] at hc
            by_cases h4 : (l.length : Int) = 4
            · exact Ev.pos h4 jt
            · exact Ev.neg h4 (jd hc.1.1 (.inr ⟨hc.1.2, hc.2, by omega⟩))
          · exact Ev.neg hc jt
      · rw [if_neg hz]
        exact Ev.neg hz jt
  · refine Ev.congr (f := fun k => (neonwrightlaw04_alive.f k).bind fun t199 => (some t199)) (fun k => ?_) (Ev.bnd alive_ev (Ev.now true))
    show neonwrightlaw04_FlashSquares.f k n l (a : Int) (b : Int) = _
    unfold neonwrightlaw04_FlashSquares.f neonwrightlaw04_few.f
    rw [decide_eq_false h, Option.bind_some, if_neg (by decide)]
end Go.Proofs.Ytnakkdaeehglnaa.Pure
