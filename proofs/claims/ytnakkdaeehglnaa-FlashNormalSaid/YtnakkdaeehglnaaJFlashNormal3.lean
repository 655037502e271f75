/- Several texts of this session in one file, in build order: GrayN, FPath, NormP, FNorm, RotN, PathN, ChgN, FPar, FMoved, FChg. -/
import Derived.Laws.BitsLemmas
import Derived.Lib.BitFns
import Derived.Test.YtnakkdaeehglnaaJFlashNormal1
import Derived.Test.YtnakkdaeehglnaaJB2
import Derived.Test.YtnakkdaeehglnaaJB1
set_option linter.unusedSimpArgs false
set_option linter.unusedVariables false
namespace Go.Proofs.Ytnakkdaeehglnaa.Kit

def gray (i : Nat) : Nat := i ^^^ (i / 2)
theorem xor_half (a b : Nat) : (a ^^^ b) / 2 = (a / 2) ^^^ (b / 2) := by
  have := @Nat.xor_div_two_pow a b 1
  simpa using this
theorem xor_low (a b : Nat) : (a ^^^ b) % 2 = (a % 2 + b % 2) % 2 := by
  have h := @Nat.xor_mod_two_pow a b 1
  rw [Nat.pow_one] at h
  rw [h]
  rcases Nat.mod_two_eq_zero_or_one a with ha | ha <;> rcases Nat.mod_two_eq_zero_or_one b with hb | hb <;> rw [ha, hb] <;> rfl
theorem xor_split (a b c d : Nat) (hb : b < 2) (hd : d < 2) : (2 * a + b) ^^^ (2 * c + d) = 2 * (a ^^^ c) + (b + d) % 2 := by
  have h1 := xor_half (2 * a + b) (2 * c + d)
  have h2 := xor_low (2 * a + b) (2 * c + d)
  rw [show (2 * a + b) / 2 = a from by omega, show (2 * c + d) / 2 = c from by omega] at h1
  rw [show (2 * a + b) % 2 = b from by omega, show (2 * c + d) % 2 = d from by omega] at h2
  omega
theorem gray_rec (x y : Nat) (hy : y < 2) : gray (2 * x + y) = 2 * gray x + (x + y) % 2 := by
  unfold gray
  rw [show (2 * x + y) / 2 = x from by omega]
  have h := xor_split x y (x / 2) (x % 2) hy (by omega)
  rw [show 2 * (x / 2) + x % 2 = x from by omega] at h
  rw [h]
  omega
theorem gray_zero : gray 0 = 0 := rfl
theorem gray_half (i : Nat) : gray i / 2 = gray (i / 2) := by
  have h := gray_rec (i / 2) (i % 2) (by omega)
  rw [show 2 * (i / 2) + i % 2 = i from by omega] at h
  omega
theorem gray_up : ∀ t j, j < 2 ^ t → gray (2 ^ t + j) = 2 ^ t + gray (2 ^ t - 1 - j) := by
  intro t
  induction t with
  | zero =>
    intro j hj
    have : j = 0 := by simpa using hj
    subst this
    rfl
  | succ t ih =>
    intro j hj
    rw [Nat.pow_succ] at hj ⊢
    have hp := Nat.two_pow_pos t
    have h1 := ih (j / 2) (by omega)
    have h2 := gray_rec (2 ^ t + j / 2) (j % 2) (by omega)
    have h3 := gray_rec (2 ^ t - 1 - j / 2) (1 - j % 2) (by omega)
    rw [show 2 * (2 ^ t + j / 2) + j % 2 = 2 ^ t * 2 + j from by omega] at h2
    rw [show 2 * (2 ^ t - 1 - j / 2) + (1 - j % 2) = 2 ^ t * 2 - 1 - j from by omega] at h3
    omega
theorem gray_lt : ∀ t i, i < 2 ^ t → gray i < 2 ^ t := fun t i h => Nat.xor_lt_two_pow h (Nat.lt_of_le_of_lt (Nat.div_le_self _ _) h)
/-- Exclusive or of a number and all that come of it by halving. -/
def rankN : Nat → Nat → Nat
  | 0, _ => 0
  | f + 1, x => if 0 < x then x ^^^ rankN f (x / 2) else 0
theorem rank_gray : ∀ f i, i < 2 ^ f → rankN f (gray i) = i := by
  intro f
  induction f with
  | zero => intro i h; have : i = 0 := by simpa using h
            subst this; rfl
  | succ f ih =>
    intro i h
    unfold rankN
    rw [Nat.pow_succ] at h
    by_cases h0 : 0 < gray i
    · rw [if_pos h0, gray_half, ih (i / 2) (by omega)]
      unfold gray
      rw [Nat.xor_assoc, Nat.xor_self, Nat.xor_zero]
    · rw [if_neg h0]
      have hz : gray i = 0 := by omega
      have h1 := gray_half i
      rw [hz] at h1
      have h2 := ih (i / 2) (by omega)
      rw [← h1] at h2
      have h3 : rankN f (0 / 2) = 0 := by cases f <;> rfl
      rw [h3] at h2
      have : i < 2 := by omega
      have h4 : i = 0 ∨ i = 1 := by omega
      rcases h4 with rfl | rfl
      · rfl
      · cases hz
theorem gray_inj {i j : Nat} (h : gray i = gray j) : i = j := by
  have h1 := rank_gray (i + j) i (Nat.lt_of_le_of_lt (Nat.le_add_right i j) Nat.lt_two_pow_self)
  have h2 := rank_gray (i + j) j (Nat.lt_of_le_of_lt (Nat.le_add_left j i) Nat.lt_two_pow_self)
  rw [h] at h1
  exact h1.symm.trans h2
/-- The place of a state, from the low bit on. -/
def placeN (s : Nat) : Nat → Nat
  | 0 => 0
  | t + 1 => if s / 2 ^ t % 2 = 1 then 2 ^ (t + 1) - 1 - placeN s t else placeN s t
theorem place_gray (s : Nat) : ∀ t, placeN s t < 2 ^ t ∧ gray (placeN s t) = s % 2 ^ t := by
  intro t
  induction t with
  | zero => exact ⟨by simp [placeN], by simp [placeN, gray_zero, Nat.mod_one]⟩
  | succ t ih =>
    obtain ⟨h1, h2⟩ := ih
    have hp := Nat.two_pow_pos t
    have hm : s % 2 ^ (t + 1) = s % 2 ^ t + 2 ^ t * (s / 2 ^ t % 2) := Nat.mod_mul
    unfold placeN
    by_cases hb : s / 2 ^ t % 2 = 1
    · rw [if_pos hb]
      have hu := gray_up t (2 ^ t - 1 - placeN s t) (by omega)
      rw [show 2 ^ t - 1 - (2 ^ t - 1 - placeN s t) = placeN s t from by omega] at hu
      rw [Nat.pow_succ] at hm ⊢
      rw [show 2 ^ t * 2 - 1 - placeN s t = 2 ^ t + (2 ^ t - 1 - placeN s t) from by omega]
      refine ⟨by omega, ?_⟩
      rw [hu, hm, hb, h2]
      omega
    · rw [if_neg hb]
      have hb0 : s / 2 ^ t % 2 = 0 := by omega
      refine ⟨Nat.lt_of_lt_of_le h1 (Nat.pow_le_pow_right (by decide) (by omega)), ?_⟩
      rw [hm, hb0, h2]
      omega
/-- Downwards: what is added, and where one goes on. -/
def upN : Nat → Nat → Nat → Nat
  | 0, _, out => out
  | t + 1, i, out => if 2 ^ t ≤ i then upN t (2 ^ (t + 1) - 1 - i) (out + 2 ^ t) else upN t i out
theorem up_gray : ∀ t i out, i < 2 ^ t → upN t i out = out + gray i := by
  intro t
  induction t with
  | zero => intro i out h; have : i = 0 := by simpa using h
            subst this; rfl
  | succ t ih =>
    intro i out h
    unfold upN
    have hp := Nat.two_pow_pos t
    by_cases hb : 2 ^ t ≤ i
    · rw [if_pos hb]
      have h2 := h
      rw [Nat.pow_succ] at h2
      have hu := gray_up t (i - 2 ^ t) (by omega)
      rw [show 2 ^ t + (i - 2 ^ t) = i from by omega] at hu
      rw [Nat.pow_succ, show 2 ^ t * 2 - 1 - i = 2 ^ t - 1 - (i - 2 ^ t) from by omega, ih _ _ (by omega), hu]
      omega
    · rw [if_neg hb, ih _ _ (by omega)]
/-- A number is a power of 2. -/
def oneN (x : Nat) : Bool := decide (0 < x) && (x &&& (x - 1) == 0)
theorem one_pow (t : Nat) : oneN (2 ^ t) = true := by
  unfold oneN
  rw [decide_eq_true (Nat.two_pow_pos t), Bool.true_and, Nat.and_two_pow_sub_one_eq_mod, Nat.mod_self]
  rfl
theorem gray_next : ∀ n i, 0 < i → i ≤ n → ∃ t, gray i ^^^ gray (i - 1) = 2 ^ t ∧ 2 ^ t ≤ i := by
  intro n
  induction n with
  | zero => intro i h0 h; omega
  | succ n ih =>
    intro i h0 h
    have h1 := gray_rec (i / 2) (i % 2) (by omega)
    rw [show 2 * (i / 2) + i % 2 = i from by omega] at h1
    rcases Nat.mod_two_eq_zero_or_one i with hm | hm
    · obtain ⟨t, ht, hle⟩ := ih (i / 2) (by omega) (by omega)
      have h2 := gray_rec (i / 2 - 1) 1 (by omega)
      rw [show 2 * (i / 2 - 1) + 1 = i - 1 from by omega] at h2
      refine ⟨t + 1, ?_, by rw [Nat.pow_succ]; omega⟩
      rw [h1, h2, xor_split _ _ _ _ (by omega) (by omega), ht, Nat.pow_succ]
      omega
    · have h2 := gray_rec (i / 2) 0 (by omega)
      rw [show 2 * (i / 2) + 0 = i - 1 from by omega] at h2
      refine ⟨0, ?_, by simp; omega⟩
      rw [h1, h2, xor_split _ _ _ _ (by omega) (by omega), Nat.xor_self]
      omega
theorem gray_last (n : Nat) (hn : 1 ≤ n) : gray (2 ^ n - 1) = 2 ^ (n - 1) := by
  obtain ⟨m, rfl⟩ : ∃ m, n = m + 1 := ⟨n - 1, by omega⟩
  have hp := Nat.two_pow_pos m
  have h := gray_up m (2 ^ m - 1) (by omega)
  rw [show 2 ^ m - 1 - (2 ^ m - 1) = 0 from by omega, gray_zero] at h
  rw [Nat.pow_succ, show 2 ^ m * 2 - 1 = 2 ^ m + (2 ^ m - 1) from by omega, h]
  simp
end Go.Proofs.Ytnakkdaeehglnaa.Kit

set_option linter.unusedSimpArgs false
set_option linter.unusedVariables false
namespace Go.Proofs.Ytnakkdaeehglnaa.P
open Go.Lib Go.RowKit Go.Proofs.YtnakkdaeehglnaaW.PrintWords Go.Proofs.YtnakkdaeehglnaaW.PrintMore Go.Proofs.Ytnakkdaeehglnaa.Kit

/-- Something is so at d places from j on. -/
def okFrom (p : Nat → Bool) : Nat → Nat → Bool
  | 0, _ => true
  | d + 1, j => p j && okFrom p d (j + 1)
theorem okFrom_iff (p : Nat → Bool) : ∀ d j, okFrom p d j = true ↔ ∀ x, j ≤ x → x < j + d → p x = true := by
  intro d
  induction d with
  | zero => intro j; exact ⟨fun _ x h1 h2 => by omega, fun _ => rfl⟩
  | succ d ih =>
    intro j
    unfold okFrom
    rw [Bool.and_eq_true, ih]
    constructor
    · rintro ⟨h1, h2⟩ x hx1 hx2
      rcases Nat.eq_or_lt_of_le hx1 with rfl | h
      · exact h1
      · exact h2 x (by omega) (by omega)
    · intro h
      exact ⟨h j (Nat.le_refl _) (by omega), fun x h1 h2 => h x (by omega) (by omega)⟩
def listedN (n : Int) (l : List Int) : Int :=
  if 1 ≤ n ∧ n ≤ 12 then (if (l.length : Int) > ((2 ^ n.toNat : Nat) : Int) then 3 else if l.length = 0 then 2 else if l.any (stOut n) = true then 2 else 0) else 2
theorem listed_f (n : Int) (l : List Int) : flash_listed.f n l = some (listedN n l) := by
  unfold flash_listed.f listedN
  split
  · split
    · rfl
    · split
      · rfl
      · split <;> rfl
  · rfl
/-- A list that there may be. -/
structure Fine (n : Nat) (l : List Int) : Prop where
  n1 : 1 ≤ n
  n2 : n ≤ 12
  pos : 0 < l.length
  len : l.length ≤ 2 ^ n
  all : ∀ x, x ∈ l → 0 ≤ x ∧ x < ((2 ^ n : Nat) : Int)
theorem listedN_fine {n : Int} {l : List Int} (h : listedN n l = 0) : ∃ m : Nat, n = m ∧ Fine m l := by
  unfold listedN at h
  split at h
  · rename_i hn
    obtain ⟨m, rfl⟩ : ∃ m : Nat, n = m := ⟨n.toNat, by omega⟩
    rw [Int.toNat_natCast] at h
    split at h
    · cases h
    · split at h
      · cases h
      · split at h
        · cases h
        · rename_i h1 h2 h3
          refine ⟨m, rfl, by omega, by omega, by omega, by omega, fun x hx => ?_⟩
          have h4 : stOut (m : Int) x = false := by
            rw [Bool.eq_false_iff]
            intro h5
            exact h3 (List.any_eq_true.2 ⟨x, hx, h5⟩)
          unfold stOut at h4
          rw [Bool.or_eq_false_iff, Int.toNat_natCast] at h4
          have := of_decide_eq_false h4.1
          have := of_decide_eq_false h4.2
          omega
  · cases h
theorem fine_listed {n : Nat} {l : List Int} (h : Fine n l) : listedN n l = 0 := by
  unfold listedN
  have := h.n1; have := h.n2; have := h.len; have := h.pos
  rw [if_pos (by omega), Int.toNat_natCast, if_neg (by omega), if_neg (by omega), if_neg]
  rw [List.any_eq_true]
  rintro ⟨x, hx, h5⟩
  have := h.all x hx
  unfold stOut at h5
  rw [Bool.or_eq_true, Int.toNat_natCast] at h5
  rcases h5 with h5 | h5
  · have := of_decide_eq_true h5; omega
  · have := of_decide_eq_true h5; omega
theorem pow12' {n : Nat} (h : n ≤ 12) : 2 ^ n ≤ 4096 := by
  have : 2 ^ n ≤ 2 ^ 12 := Nat.pow_le_pow_right (by decide) h
  simpa using this
theorem Fine.small {n : Nat} {l : List Int} (h : Fine n l) : l.all small = true := by
  rw [List.all_eq_true]
  intro x hx
  have := h.all x hx
  have := pow12' h.n2
  exact decide_eq_true (by omega)
theorem Fine.rd {n : Nat} {l : List Int} (h : Fine n l) (i : Nat) (hi : i < l.length) : 0 ≤ rd l (i : Int) ∧ rd l (i : Int) < 4096 := by
  rw [rd_get l i hi]
  have := h.all _ (List.getElem_mem hi)
  have := pow12' h.n2
  omega
theorem ones_one_all : ((List.range 64).all fun a => (List.range 64).all fun b => (onesCount (64 * a + b) == 1) == oneN (64 * a + b)) = true := by decide +kernel
theorem ones_one {x : Nat} (h : x < 4096) : (onesCount x == 1) = oneN x := by
  have h1 := ones_one_all
  rw [List.all_eq_true] at h1
  have h2 := h1 (x / 64) (List.mem_range.2 (by omega))
  rw [List.all_eq_true] at h2
  have h3 := h2 (x % 64) (List.mem_range.2 (by omega))
  rw [show 64 * (x / 64) + x % 64 = x from by omega] at h3
  exact beq_iff_eq.1 h3
theorem nx_comm (a b : Int) : nx a b = nx b a := by unfold nx; rw [Nat.xor_comm]
theorem nx_one {a b : Int} (ha : 0 ≤ a ∧ a < 4096) (hb : 0 ≤ b ∧ b < 4096) : nx a b = oneN (a.toNat ^^^ b.toNat) := by
  unfold nx
  exact ones_one (Nat.xor_lt_two_pow (n := 12) (by omega) (by omega))
theorem sm {a : Int} (ha : 0 ≤ a ∧ a < 4096) : small a = true := decide_eq_true (by omega)
theorem next_nx {a b : Int} (ha : 0 ≤ a ∧ a < 4096) (hb : 0 ≤ b ∧ b < 4096) : flash_next.f a b = some (nx a b) := next_small (sm ha) (sm hb)
/-- The ends are neighbours. -/
def closedB (l : List Int) : Bool := decide (4 ≤ l.length) && nx (rd l 0) (rd l ((l.length - 1 : Nat) : Int))
theorem last_w {l : List Int} (h : 0 < l.length) (h2 : l.length ≤ 5000) : wrap64 ((l.length : Int) - 1) = ((l.length - 1 : Nat) : Int) := by
  rw [w64 (by omega) (by omega)]; omega
theorem Fine.le {n : Nat} {l : List Int} (h : Fine n l) : l.length ≤ 4096 := Nat.le_trans h.len (pow12' h.n2)
theorem closed_f {n : Nat} {l : List Int} (h : Fine n l) : flash_closed.f l = some (closedB l) := by
  have hp := h.pos
  have hl := h.le
  unfold flash_closed.f closedB
  by_cases h4 : 4 ≤ l.length
  · rw [if_pos (by omega), if_pos (by omega), last_w hp (by omega), if_pos (by omega), if_pos (by omega), decide_eq_true h4, Bool.true_and]
    have h0 := next_nx (h.rd 0 hp) (h.rd (l.length - 1) (by omega))
    rw [show ((0 : Nat) : Int) = 0 from rfl] at h0
    rw [h0, Option.bind_some]
  · rw [if_neg (by omega), decide_eq_false h4]
    rfl
def pairOk (l : List Int) (r : Bool) (i j : Nat) : Bool := !nx (rd l (i : Int)) (rd l (j : Int)) || (r && decide (i = 0) && decide (j = l.length - 1))
def snakeB (l : List Int) (r : Bool) : Bool := okFrom (fun i => okFrom (pairOk l r i) (l.length - (i + 2)) (i + 2)) l.length 0
theorem snake_l1 {n : Nat} {l : List Int} (h : Fine n l) (r : Bool) (i : Nat) (hi : i < l.length) (R : Bool) (hR : Ev (fun k => flash_snake.l0 k l r l (l.length : Int) ((i + 1 : Nat) : Int)) R) :
    ∀ d j, l.length - j = d → i + 2 ≤ j → j ≤ l.length + 2 → Ev (fun k => flash_snake.l1 k l r (i : Int) (rd l (i : Int)) (j : Int) l (l.length : Int) (i : Int)) (okFrom (pairOk l r i) (l.length - j) j && R) := by
  have hl := h.le
  have hw : wrap64 ((i : Int) + 1) = ((i + 1 : Nat) : Int) := by rw [w64 (by omega) (by omega)]; rfl
  intro d
  induction d with
  | zero =>
    intro j hd h2 hj
    rw [hd]
    refine Ev.step (f := fun k => flash_snake.l0 k l r l (l.length : Int) ((i + 1 : Nat) : Int)) (fun k => ?_) hR
    simp only [flash_snake.l1]
    rw [if_neg (by omega), hw]
  | succ d ih =>
    intro j hd h2 hj
    have hjl : j < l.length := by omega
    have h1 := ih (j + 1) (by omega) (by omega) (by omega)
    have hj1 : wrap64 ((j : Int) + 1) = ((j + 1 : Nat) : Int) := by rw [w64 (by omega) (by omega)]; rfl
    have hn := next_nx (h.rd i hi) (h.rd j hjl)
    rw [show l.length - j = (l.length - (j + 1)) + 1 from by omega]
    unfold okFrom
    refine Ev.step (f := fun k => if pairOk l r i j = true then flash_snake.l1 k l r (i : Int) (rd l (i : Int)) ((j + 1 : Nat) : Int) l (l.length : Int) (i : Int) else some false) (fun k => ?_) ?_
    · simp only [flash_snake.l1]
      rw [if_pos (by omega), if_pos (by omega), hn, Option.bind_some, hj1, last_w h.pos (by omega)]
      unfold pairOk
      cases nx (rd l (i : Int)) (rd l (j : Int)) with
      | false => rw [if_neg (by decide), if_pos (by rfl)]
      | true =>
        rw [if_pos rfl]
        cases r with
        | false => rw [if_neg (by decide), if_neg (by simp)]
        | true =>
          rw [if_pos rfl]
          by_cases h0 : i = 0
          · rw [if_pos (by omega)]
            by_cases h3 : j = l.length - 1
            · rw [if_pos (by omega), if_pos (by simp [h0, h3])]
            · rw [if_neg (by omega), if_neg (by simp [h0, h3])]
          · rw [if_neg (by omega), if_neg (by simp [h0])]
    · cases hb : pairOk l r i j with
      | true => exact Ev.pos rfl (by simpa using h1)
      | false => exact Ev.neg (by decide) (Ev.now _)
theorem snake_l0 {n : Nat} {l : List Int} (h : Fine n l) (r : Bool) : ∀ d i, l.length - i = d → i ≤ l.length →
    Ev (fun k => flash_snake.l0 k l r l (l.length : Int) (i : Int)) (okFrom (fun i => okFrom (pairOk l r i) (l.length - (i + 2)) (i + 2)) d i) := by
  have hl := h.le
  intro d
  induction d with
  | zero =>
    intro i hd hi
    refine Ev.step (f := fun _ => some true) (fun k => ?_) (Ev.now _)
    simp only [flash_snake.l0]
    rw [if_neg (by omega)]
  | succ d ih =>
    intro i hd hi
    have hil : i < l.length := by omega
    have h1 := snake_l1 h r i hil _ (ih (i + 1) (by omega) (by omega)) (l.length - (i + 2)) (i + 2) rfl (Nat.le_refl _) (by omega)
    unfold okFrom
    refine Ev.step (f := fun k => flash_snake.l1 k l r (i : Int) (rd l (i : Int)) ((i + 2 : Nat) : Int) l (l.length : Int) (i : Int)) (fun k => ?_) h1
    simp only [flash_snake.l0]
    rw [if_pos (by omega), if_pos (by omega), if_pos (by omega), w64 (x := (i : Int) + 2) (by omega) (by omega)]
    rfl
theorem snake_ev {n : Nat} {l : List Int} (h : Fine n l) (r : Bool) : Ev (fun k => flash_snake.f k l r) (snakeB l r) := by
  have := snake_l0 h r l.length 0 (by omega) (by omega)
  exact this
/-- What Path and Snake say. -/
def pathR (n : Int) (l : List Int) : Bool × Bool × Int := if listedN n l = 0 then (pathB l, pathB l && closedB l, 0) else (false, false, listedN n l)
def snakeR (n : Int) (l : List Int) : Bool × Bool × Int := if listedN n l = 0 then (pathB l && snakeB l false, pathB l && closedB l && snakeB l true, 0) else (false, false, listedN n l)
theorem path_f (n : Int) (l : List Int) : flash_Path.f n l = some (pathR n l) := by
  unfold flash_Path.f pathR
  rw [listed_f, Option.bind_some]
  by_cases h : listedN n l = 0
  · obtain ⟨m, rfl, hf⟩ := listedN_fine h
    rw [if_pos h, if_pos h]
    unfold flash_path.f
    rw [if_pos hf.small, Option.bind_some, closed_f hf]
    cases pathB l <;> simp
  · rw [if_neg h, if_neg h]
theorem snakeR_ev (n : Int) (l : List Int) : Ev (fun k => flash_Snake.f k n l) (snakeR n l) := by
  unfold snakeR
  by_cases h : listedN n l = 0
  · obtain ⟨m, rfl, hf⟩ := listedN_fine h
    rw [if_pos h]
    refine Ev.congr (f := fun k => if pathB l = true then ((flash_snake.f k l false).bind fun t172 => (if closedB l = true then ((flash_snake.f k l true).bind fun t174 => (some (t172, t174, 0))) else (some (t172, false, 0)))) else (some (false, false, 0))) (fun k => ?_) ?_
    · show flash_Snake.f k _ _ = _
      unfold flash_Snake.f
      rw [listed_f, Option.bind_some, if_pos h]
      unfold flash_path.f
      rw [if_pos hf.small, Option.bind_some, closed_f hf]
      rfl
    · cases pathB l with
      | false => exact Ev.neg (by decide) (Ev.now _)
      | true =>
        refine Ev.pos rfl (Ev.bnd (snake_ev hf false) ?_)
        cases closedB l with
        | false => exact Ev.neg (by decide) (by simpa using Ev.now _)
        | true => exact Ev.pos rfl (Ev.bnd (snake_ev hf true) (by simpa using Ev.now _))
  · rw [if_neg h]
    refine Ev.at 0 (fun k _ => ?_)
    unfold flash_Snake.f
    rw [listed_f, Option.bind_some, if_neg h]
end Go.Proofs.Ytnakkdaeehglnaa.P

set_option linter.unusedSimpArgs false
set_option linter.unusedVariables false
namespace Go.Proofs.Ytnakkdaeehglnaa.P
open Go.Lib Go.RowKit Go.Proofs.YtnakkdaeehglnaaW.PrintWords Go.Proofs.YtnakkdaeehglnaaW.PrintMore Go.Proofs.Ytnakkdaeehglnaa.Kit

theorem litB_bit (x t : Int) : litB x t = x.toNat.testBit t.toNat := by
  unfold litB
  cases h : x.toNat.testBit t.toNat with
  | false =>
    have : x.toNat &&& 2 ^ t.toNat = 0 := Nat.eq_of_testBit_eq (fun j => by
      rw [Nat.testBit_and, Nat.testBit_two_pow, Nat.zero_testBit]
      by_cases e : t.toNat = j
      · subst e; rw [h]; rfl
      · simp [e])
    rw [this]; rfl
  | true =>
    have h2 : (x.toNat &&& 2 ^ t.toNat).testBit t.toNat = true := by rw [Nat.testBit_and, h, Nat.testBit_two_pow]; simp
    rw [bne_iff_ne]
    intro e
    rw [e] at h2
    simp at h2
/-- The number with these bits. -/
def valOf : List Bool → Nat
  | [] => 0
  | b :: bs => b.toNat + 2 * valOf bs
theorem val_bit : ∀ (bs : List Bool) (j : Nat), (valOf bs).testBit j = bs.getD j false := by
  intro bs
  induction bs with
  | nil => intro j; simp [valOf]
  | cons b bs ih =>
    intro j
    unfold valOf
    cases j with
    | zero => cases b <;> simp [Nat.testBit_zero]
    | succ j =>
      rw [Nat.testBit_succ, show (b.toNat + 2 * valOf bs) / 2 = valOf bs from by cases b <;> simp <;> omega, ih]
      rfl
theorem ups_mem {n : Nat} {t : Int} : t ∈ ups n ↔ 0 ≤ t ∧ t < n := by
  unfold ups
  rw [List.mem_map]
  constructor
  · rintro ⟨m, hm, rfl⟩
    have := List.mem_range.1 hm
    omega
  · rintro ⟨h0, h1⟩
    exact ⟨t.toNat, List.mem_range.2 (by omega), by omega⟩
theorem ups_nodup (n : Nat) : (ups n).Nodup := by
  unfold ups List.Nodup
  rw [List.pairwise_map]
  exact List.pairwise_lt_range.imp (fun h => by omega)
theorem rd_set (l : List Int) (u : Nat) (v : Int) (t : Int) (hu : u < l.length) (ht : 0 ≤ t) : rd (l.set u v) t = if t.toNat = u then v else rd l t := by
  unfold rd
  rw [List.getD_eq_getElem?_getD, List.getD_eq_getElem?_getD, List.getElem?_set]
  by_cases h : u = t.toNat
  · subst h; simp [hu]
  · rw [if_neg h, if_neg (fun e => h e.symm)]
theorem toAt_inv {n : Nat} {order : List Int} (h : order.Perm (ups n)) : ∀ i, i ≤ n → ∀ k, (hk : k < i) → rd (toAt n order i) (rd order (k : Int)) = k := by
  have hl : order.length = n := h.length_eq.trans (ups_len n)
  have hnd : order.Nodup := h.nodup_iff.2 (ups_nodup n)
  have hr : ∀ k, k < n → 0 ≤ rd order (k : Int) ∧ rd order (k : Int) < n := fun k hk => by
    rw [rd_get order k (by omega)]
    exact ups_mem.1 (h.mem_iff.1 (List.getElem_mem _))
  intro i
  induction i with
  | zero => intro _ k hk; omega
  | succ i ih =>
    intro hi k hk
    have r1 := hr i (by omega)
    have r2 := hr k (by omega)
    rw [toAt_succ, rd_set _ _ _ _ (by rw [toAt_len]; omega) r2.1]
    by_cases e : k = i
    · subst e; rw [if_pos rfl]
    · rw [if_neg, ih (by omega) k (by omega)]
      intro e2
      have e3 : rd order (k : Int) = rd order (i : Int) := by omega
      rw [rd_get order k (by omega), rd_get order i (by omega)] at e3
      exact e ((List.getElem_inj hnd).1 e3)
theorem outX_bit (tb : List Int) (x : Nat) (j : Nat) : ∀ t, (outX tb x t).testBit j = true ↔ ∃ t', t' < t ∧ (rd tb (t' : Int)).toNat = j ∧ x.testBit t' = true := by
  intro t
  induction t with
  | zero => unfold outX; simp
  | succ t ih =>
    rw [outX_succ, Nat.testBit_or, Bool.or_eq_true, ih]
    have hs : ((x >>> t &&& 1) <<< (rd tb (t : Int)).toNat).testBit j = true ↔ (rd tb (t : Int)).toNat = j ∧ x.testBit t = true := by
      have hb : x >>> t &&& 1 = (x.testBit t).toNat := by
        rw [Nat.and_one_is_mod, Nat.testBit_eq_decide_div_mod_eq, Nat.shiftRight_eq_div_pow]
        have := Nat.mod_two_eq_zero_or_one (x / 2 ^ t)
        rcases this with h | h <;> rw [h] <;> rfl
      rw [hb, Nat.testBit_shiftLeft]
      cases hx : x.testBit t with
      | false => simp
      | true =>
        simp only [Bool.toNat_true, Bool.and_eq_true, decide_eq_true_eq, and_true]
        constructor
        · rintro ⟨h1, h2⟩
          rw [Nat.testBit_one_eq_true_iff_self_eq_zero] at h2
          omega
        · intro h; subst h; simp
    rw [hs]
    constructor
    · rintro (⟨t', h1, h2⟩ | h)
      · exact ⟨t', by omega, h2⟩
      · exact ⟨t, by omega, h⟩
    · rintro ⟨t', h1, h2⟩
      by_cases e : t' = t
      · subst e; exact Or.inr h2
      · exact Or.inl ⟨t', by omega, h2⟩
theorem outX_val {n : Nat} {order : List Int} (hn : 0 < n) (h : order.Perm (ups n)) (x : Nat) : outX (toAt n order n) x n = valOf (order.map fun t => x.testBit t.toNat) := by
  have hl : order.length = n := h.length_eq.trans (ups_len n)
  have hr : ∀ k, k < n → 0 ≤ rd order (k : Int) ∧ rd order (k : Int) < n := fun k hk => by
    rw [rd_get order k (by omega)]
    exact ups_mem.1 (h.mem_iff.1 (List.getElem_mem _))
  apply Nat.eq_of_testBit_eq
  intro j
  rw [Bool.eq_iff_iff, outX_bit, val_bit]
  constructor
  · rintro ⟨t, h1, h2, h3⟩
    obtain ⟨k, hk, e⟩ := List.getElem_of_mem (h.mem_iff.2 (ups_mem.2 ⟨(by omega : (0 : Int) ≤ (t : Int)), (by omega : (t : Int) < (n : Int))⟩))
    have := toAt_inv h n (Nat.le_refl _) k (by omega)
    rw [rd_get order k (by omega), e] at this
    rw [this] at h2
    obtain rfl : k = j := by omega
    simp [hk, e, h3]
  · intro h1
    by_cases hj : j < n
    · have := toAt_inv h n (Nat.le_refl _) j hj
      have r := hr j hj
      refine ⟨(rd order (j : Int)).toNat, by omega, ?_, ?_⟩
      · rw [show (((rd order (j : Int)).toNat : Nat) : Int) = rd order (j : Int) from by omega, this]; omega
      · rw [rd_get order j (by omega)]
        simpa [hl, hj] using h1
    · simp [hl, hj] at h1
/-- Two lists of groups, the second one's tubes being renamed. -/
def Rel (p : Int → Int) : List (List Int) → List (List Int) → Prop
  | [], [] => True
  | g :: gs, g' :: gs' => g'.Perm (g.map p) ∧ Rel p gs gs'
  | _, _ => False
theorem Rel.app {p : Int → Int} : ∀ {a a' b b' : List (List Int)}, Rel p a a' → Rel p b b' → Rel p (a ++ b) (a' ++ b') := by
  intro a
  induction a with
  | nil => intro a' b b' h1 h2; cases a' with
    | nil => exact h2
    | cons _ _ => exact h1.elim
  | cons g gs ih => intro a' b b' h1 h2; cases a' with
    | nil => exact h1.elim
    | cons g' gs' => exact ⟨h1.1, ih h1.2 h2⟩
theorem perm_filter_map {p : Int → Int} {q q' : Int → Bool} {g g' : List Int} (h : g'.Perm (g.map p)) (hb : ∀ t, t ∈ g → q' (p t) = q t) : (g'.filter q').Perm ((g.filter q).map p) := by
  refine (h.filter q').trans ?_
  rw [List.filter_map]
  rw [show g.filter (q' ∘ p) = g.filter q from List.filter_congr (fun t ht => hb t ht)]
theorem halves_rel {p : Int → Int} {x x' : Int} {g g' : List Int} (h : g'.Perm (g.map p)) (hb : ∀ t, t ∈ g → litB x' (p t) = litB x t) : Rel p (halves x g) (halves x' g') := by
  have h1 := perm_filter_map h hb
  have h2 := perm_filter_map (q := fun t => !litB x t) (q' := fun t => !litB x' t) h (fun t ht => by rw [hb t ht])
  have l1 := h1.length_eq
  have l2 := h2.length_eq
  rw [List.length_map] at l1 l2
  unfold halves
  rw [List.filter_cons, List.filter_cons, List.filter_cons, List.filter_cons, l1, l2]
  by_cases e1 : 0 < (g.filter (litB x)).length <;> by_cases e2 : 0 < (g.filter (fun t => !litB x t)).length <;> simp only [e1, e2, decide_true, decide_false, if_true, List.filter_nil, Bool.false_eq_true, if_false] <;> simp only [Rel, h1, h2, and_self]
theorem refine_rel {p : Int → Int} {x x' : Int} : ∀ {gs gs' : List (List Int)}, Rel p gs gs' → (∀ g, g ∈ gs → ∀ t, t ∈ g → litB x' (p t) = litB x t) → Rel p (refine1 x gs) (refine1 x' gs') := by
  intro gs
  induction gs with
  | nil => intro gs' h _; cases gs' with
    | nil => exact trivial
    | cons _ _ => exact h.elim
  | cons g gs ih => intro gs' h hb; cases gs' with
    | nil => exact h.elim
    | cons g' gs' =>
      unfold refine1
      rw [List.flatMap_cons, List.flatMap_cons]
      exact (halves_rel h.1 (hb g List.mem_cons_self)).app (ih h.2 (fun g'' hg => hb g'' (List.mem_cons_of_mem _ hg)))
/-- All tubes of a group have the same bit. -/
def Const (x : Int) (gs : List (List Int)) : Prop := ∀ g, g ∈ gs → ∀ s, s ∈ g → ∀ t, t ∈ g → litB x s = litB x t
theorem halves_mem {x : Int} {g h : List Int} (hh : h ∈ halves x g) : (∀ t, t ∈ h → t ∈ g) ∧ ∀ s, s ∈ h → ∀ t, t ∈ h → litB x s = litB x t := by
  unfold halves at hh
  have h1 := (List.mem_filter.1 hh).1
  rcases List.mem_cons.1 h1 with rfl | h1
  · exact ⟨fun t ht => (List.mem_filter.1 ht).1, fun s hs t ht => by rw [(List.mem_filter.1 hs).2, (List.mem_filter.1 ht).2]⟩
  · rw [List.mem_singleton] at h1
    subst h1
    refine ⟨fun t ht => (List.mem_filter.1 ht).1, fun s hs t ht => ?_⟩
    have a := (List.mem_filter.1 hs).2
    have b := (List.mem_filter.1 ht).2
    rw [Bool.not_eq_true'] at a b
    rw [a, b]
theorem const_new (x : Int) (gs : List (List Int)) : Const x (refine1 x gs) := by
  intro h hh
  obtain ⟨g, _, hg⟩ := List.mem_flatMap.1 hh
  exact (halves_mem hg).2
theorem Const.step {x : Int} {gs : List (List Int)} (h : Const x gs) (y : Int) : Const x (refine1 y gs) := by
  intro k hk s hs t ht
  obtain ⟨g, hg, hk2⟩ := List.mem_flatMap.1 hk
  have := (halves_mem hk2).1
  exact h g hg s (this s hs) t (this t ht)
theorem map_const {α : Type} (f g : Int → α) : ∀ (a b : List Int), a.length = b.length → (∀ s, s ∈ a → ∀ t, t ∈ b → f s = g t) → a.map f = b.map g := by
  intro a
  induction a with
  | nil => intro b hl _; cases b with
    | nil => rfl
    | cons _ _ => simp at hl
  | cons x xs ih => intro b hl h; cases b with
    | nil => simp at hl
    | cons y ys =>
      rw [List.map_cons, List.map_cons, h x List.mem_cons_self y List.mem_cons_self, ih ys (by simpa using hl) (fun s hs t ht => h s (List.mem_cons_of_mem _ hs) t (List.mem_cons_of_mem _ ht))]
theorem const_row {x : Int} {gs : List (List Int)} (h : Const x gs) (y : Int) : (refine1 y gs).flatten.map (litB x) = gs.flatten.map (litB x) := by
  induction gs with
  | nil => rfl
  | cons g gs ih =>
    unfold refine1 at *
    rw [List.flatMap_cons, List.flatten_append, List.flatten_cons, List.map_append, List.map_append, ih (fun g' hg => h g' (List.mem_cons_of_mem _ hg))]
    congr 1
    have hp := halves_perm y g
    exact map_const _ _ _ _ hp.length_eq (fun s hs t ht => h g List.mem_cons_self s (hp.mem_iff.1 hs) t ht)
theorem rel_row {p : Int → Int} {x x' : Int} : ∀ {gs gs' : List (List Int)}, Rel p gs gs' → Const x gs → (∀ g, g ∈ gs → ∀ t, t ∈ g → litB x' (p t) = litB x t) → gs'.flatten.map (litB x') = gs.flatten.map (litB x) := by
  intro gs
  induction gs with
  | nil => intro gs' h _ _; cases gs' with
    | nil => rfl
    | cons _ _ => exact h.elim
  | cons g gs ih => intro gs' h hc hb; cases gs' with
    | nil => exact h.elim
    | cons g' gs' =>
      rw [List.flatten_cons, List.flatten_cons, List.map_append, List.map_append, ih h.2 (fun g'' hg => hc g'' (List.mem_cons_of_mem _ hg)) (fun g'' hg => hb g'' (List.mem_cons_of_mem _ hg))]
      congr 1
      refine map_const _ _ _ _ (by rw [h.1.length_eq, List.length_map]) (fun s hs t ht => ?_)
      obtain ⟨s', hs', rfl⟩ := List.mem_map.1 (h.1.mem_iff.1 hs)
      rw [hb g List.mem_cons_self s' hs', hc g List.mem_cons_self s' hs' t ht]
/-- The groups behind some differences. -/
def grp (xs : List Int) (gs : List (List Int)) : List (List Int) := xs.foldl (fun gs x => refine1 x gs) gs
theorem groupsF_grp (n : Nat) (z : Int) (l : List Int) : groupsF n z l = grp (l.map (xr · z)) [ups n] := by
  unfold groupsF grp
  rw [List.foldl_map]
theorem grp_const_keep {x : Int} : ∀ (xs : List Int) {gs : List (List Int)}, Const x gs → Const x (grp xs gs) := by
  intro xs
  induction xs with
  | nil => intro gs h; exact h
  | cons y xs ih => intro gs h; exact ih (h.step y)
theorem grp_const {x : Int} : ∀ (xs : List Int) (gs : List (List Int)), x ∈ xs → Const x (grp xs gs) := by
  intro xs
  induction xs with
  | nil => intro gs h; cases h
  | cons y xs ih =>
    intro gs h
    rcases List.mem_cons.1 h with rfl | h
    · exact grp_const_keep xs (const_new x gs)
    · exact ih _ h
theorem grp_row {x : Int} : ∀ (xs : List Int) {gs : List (List Int)}, Const x gs → (grp xs gs).flatten.map (litB x) = gs.flatten.map (litB x) := by
  intro xs
  induction xs with
  | nil => intro gs _; rfl
  | cons y xs ih => intro gs h; exact (ih (h.step y)).trans (const_row h y)
theorem grp_good {n : Nat} : ∀ (xs : List Int) {gs : List (List Int)}, Good n gs → Good n (grp xs gs) := by
  intro xs
  induction xs with
  | nil => intro gs h; exact h
  | cons y xs ih => intro gs h; exact ih (h.step y)
theorem grp_rel {p : Int → Int} {n : Nat} : ∀ (xs xs' : List Int) {gs gs' : List (List Int)}, xs.length = xs'.length → Rel p gs gs' → Good n gs →
    (∀ i, (h : i < xs.length) → ∀ t, t ∈ ups n → litB (rd xs' (i : Int)) (p t) = litB xs[i] t) → Rel p (grp xs gs) (grp xs' gs') := by
  intro xs
  induction xs with
  | nil => intro xs' gs gs' hl h _ _; cases xs' with
    | nil => exact h
    | cons _ _ => simp at hl
  | cons x xs ih => intro xs' gs gs' hl h hg hb; cases xs' with
    | nil => simp at hl
    | cons x' xs' =>
      refine ih xs' (by simpa using hl) (refine_rel h (fun g hg1 t ht => ?_)) (hg.step x) (fun i hi t ht => ?_)
      · have := hb 0 (by simp) t (hg.perm.mem_iff.1 (List.mem_flatten.2 ⟨g, hg1, ht⟩))
        simpa [rd] using this
      · have := hb (i + 1) (by simpa using hi) t ht
        have e : rd (x' :: xs') ((i + 1 : Nat) : Int) = rd xs' (i : Int) := by simp [rd]
        rw [e] at this
        simpa using this
/-- The least list, as rows of the final order. -/
theorem normal_rows {n : Nat} (hn : 1 ≤ n) (l : List Int) : normalL n l = l.map fun s => (valOf ((groupsF n (rd l 0) l).flatten.map (litB (xr s (rd l 0)))) : Int) := by
  unfold normalL
  refine List.map_congr_left (fun s _ => ?_)
  rw [outX_val hn (groupsF_good hn _ _).perm]
  congr 2
  refine List.map_congr_left (fun t _ => ?_)
  rw [litB_bit]
  rfl
/-- Tubes are exchanged, and some are inverted. -/
theorem normal_same {n : Nat} (hn : 1 ≤ n) (p : Int → Int) (hp : (ups n).Perm ((ups n).map p)) (l l' : List Int) (hl : l'.length = l.length)
    (hb : ∀ i, (h : i < l.length) → ∀ t, t ∈ ups n → litB (xr (rd l' (i : Int)) (rd l' 0)) (p t) = litB (xr (rd l (i : Int)) (rd l 0)) t) : normalL n l' = normalL n l := by
  rw [normal_rows hn, normal_rows hn, groupsF_grp, groupsF_grp]
  have hrel : Rel p (grp (l.map (xr · (rd l 0))) [ups n]) (grp (l'.map (xr · (rd l' 0))) [ups n]) := by
    refine grp_rel (n := n) _ _ (by simp [hl]) ⟨hp, trivial⟩ (Good.init hn) (fun i hi t ht => ?_)
    rw [List.length_map] at hi
    have := hb i hi t ht
    rw [rd_get _ i (by simpa [hl] using hi), List.getElem_map, List.getElem_map]
    rwa [rd_get l' i (by omega), rd_get l i hi] at this
  refine List.ext_getElem (by simp [hl]) (fun i h1 h2 => ?_)
  rw [List.length_map] at h1 h2
  rw [List.getElem_map, List.getElem_map]
  congr 2
  refine rel_row hrel (grp_const _ _ (List.mem_map.2 ⟨l[i], List.getElem_mem _, rfl⟩)) (fun g hg t ht => ?_)
  have := hb i h2 t ((grp_good _ (Good.init hn)).perm.mem_iff.1 (List.mem_flatten.2 ⟨g, hg, ht⟩))
  rwa [rd_get l' i h1, rd_get l i h2] at this

theorem normalL_len (n : Nat) (l : List Int) : (normalL n l).length = l.length := by unfold normalL; simp
theorem val_lt : ∀ (bs : List Bool), valOf bs < 2 ^ bs.length := by
  intro bs
  induction bs with
  | nil => simp [valOf]
  | cons b bs ih =>
    unfold valOf
    rw [List.length_cons, Nat.pow_succ]
    cases b <;> simp <;> omega
theorem val_zero : ∀ (bs : List Bool), (∀ b, b ∈ bs → b = false) → valOf bs = 0 := by
  intro bs
  induction bs with
  | nil => intro _; rfl
  | cons b bs ih =>
    intro h
    unfold valOf
    rw [ih (fun b' hb => h b' (List.mem_cons_of_mem _ hb)), h b List.mem_cons_self]
    rfl
theorem normal_rd {n : Nat} (hn : 1 ≤ n) (l : List Int) (i : Nat) (hi : i < l.length) : rd (normalL n l) (i : Int) = (valOf ((groupsF n (rd l 0) l).flatten.map (litB (xr (rd l (i : Int)) (rd l 0)))) : Int) := by
  rw [rd_get _ i (by rw [normalL_len]; exact hi)]
  simp only [normal_rows hn]
  rw [List.getElem_map, rd_get l i hi]
theorem xr_self (s : Int) : xr s s = 0 := by unfold xr; rw [Nat.xor_self]; rfl
theorem normal_first {n : Nat} (hn : 1 ≤ n) (l : List Int) (hl : 0 < l.length) : rd (normalL n l) 0 = 0 := by
  have := normal_rd hn l 0 hl
  rw [show ((0 : Nat) : Int) = 0 from rfl, xr_self] at this
  rw [this, val_zero]
  · rfl
  · intro b hb
    obtain ⟨t, _, rfl⟩ := List.mem_map.1 hb
    rw [litB_bit]
    simp
/-- The least list is its own. -/
theorem normal_normal {n : Nat} (hn : 1 ≤ n) (l : List Int) : normalL n (normalL n l) = normalL n l := by
  have hg := groupsF_good hn (rd l 0) l
  have hlen := hg.len
  refine normal_same hn (rd (toAt n (groupsF n (rd l 0) l).flatten n)) ?_ l (normalL n l) (normalL_len n l) (fun i hi t ht => ?_)
  · have h1 : (groupsF n (rd l 0) l).flatten.map (rd (toAt n (groupsF n (rd l 0) l).flatten n)) = ups n := by
      refine List.ext_getElem (by rw [List.length_map, hlen, ups_len]) (fun k h1 h2 => ?_)
      rw [List.length_map] at h1
      rw [List.getElem_map, ← rd_get _ k h1, toAt_inv hg.perm n (Nat.le_refl _) k (by omega)]
      simp [ups]
    have h2 := hg.perm.map (rd (toAt n (groupsF n (rd l 0) l).flatten n))
    rw [h1] at h2
    exact h2
  · have hl0 : 0 < l.length := by omega
    obtain ⟨k, hk, e⟩ := List.getElem_of_mem (hg.perm.mem_iff.2 ht)
    have hinv := toAt_inv hg.perm n (Nat.le_refl _) k (by omega)
    rw [rd_get _ k hk, e] at hinv
    rw [hinv, normal_first hn l hl0, normal_rd hn l i hi, litB_bit]
    unfold xr
    rw [Int.toNat_natCast, Int.toNat_natCast, show (0 : Int).toNat = 0 from rfl, Nat.xor_zero, Int.toNat_natCast, val_bit, List.getD_eq_getElem?_getD, List.getElem?_map, List.getElem?_eq_getElem hk, e]
    rfl
theorem normal_fine {n : Nat} {l : List Int} (h : Fine n l) : Fine n (normalL n l) := by
  refine ⟨h.n1, h.n2, by rw [normalL_len]; exact h.pos, by rw [normalL_len]; exact h.len, fun x hx => ?_⟩
  rw [normal_rows h.n1] at hx
  obtain ⟨s, _, rfl⟩ := List.mem_map.1 hx
  have := val_lt ((groupsF n (rd l 0) l).flatten.map (litB (xr s (rd l 0))))
  rw [List.length_map, (groupsF_good h.n1 (rd l 0) l).len] at this
  omega
end Go.Proofs.Ytnakkdaeehglnaa.P

set_option linter.unusedSimpArgs false
set_option linter.unusedVariables false
set_option linter.unusedSectionVars false
set_option maxHeartbeats 2000000
namespace Go.Proofs.Ytnakkdaeehglnaa.P
open Go.Lib Go.RowKit Go.Proofs.YtnakkdaeehglnaaW.PrintWords Go.Proofs.YtnakkdaeehglnaaW.PrintMore Go.Proofs.Ytnakkdaeehglnaa.Kit
/-- What Normal and Same say. -/
def normalR (n : Int) (l : List Int) : List Int × Int := if listedN n l = 0 then (normalL n.toNat l, 0) else ([], listedN n l)
def sameR (n : Int) (a b : List Int) : Bool × Int := if listedN n a = 0 then (if listedN n b = 0 then (decide (normalL n.toNat a = normalL n.toNat b), 0) else (false, listedN n b)) else (false, listedN n a)
theorem normal_len2 {n : Nat} {l : List Int} (h : Fine n l) : (normalL n l).length ≤ 4096 := by rw [normalL_len]; exact h.le
theorem normal_small {n : Nat} {l : List Int} (h : Fine n l) : flash_normal.f (n : Int) l = some (normalL n l) := by
  have := h.n1; have := h.n2; have := h.pos; have := h.le
  unfold flash_normal.f
  rw [if_pos ⟨⟨by omega, by omega, h.pos, by omega⟩, h.small⟩, Int.toNat_natCast]
theorem normalR_f (n : Int) (l : List Int) : flash_Normal.f n l = some (normalR n l) := by
  unfold flash_Normal.f normalR
  rw [listed_f, Option.bind_some]
  by_cases hz : listedN n l = 0
  · obtain ⟨m, rfl, hf⟩ := listedN_fine hz
    rw [if_pos hz, if_pos hz, normal_small hf, Option.bind_some, Int.toNat_natCast]
  · rw [if_neg hz, if_neg hz]
theorem equal_l0 (a b : List Int) (hl : a.length = b.length) (hn : a.length ≤ 4611686018427387904) : ∀ d (i : Nat), i + d = a.length →
    Ev (fun k => slices_Equal_int_int.l0 k a b (a.length : Int) (i : Int)) (decide (a.drop i = b.drop i)) := by
  intro d
  induction d with
  | zero =>
    intro i h
    refine Ev.at 1 (fun k hk => ?_)
    obtain ⟨k, rfl⟩ : ∃ j, k = j + 1 := ⟨k - 1, by omega⟩
    simp only [slices_Equal_int_int.l0]
    rw [if_neg (by omega)]
    have : decide (a.drop i = b.drop i) = true := decide_eq_true (by rw [List.drop_of_length_le (by omega), List.drop_of_length_le (by omega)])
    rw [this]
  | succ d ih =>
    intro i h
    have hi : i < a.length := by omega
    have hi' : i < b.length := by omega
    have e1 : wrap64 ((i : Int) + 1) = ((i + 1 : Nat) : Int) := by rw [w64 (by omega) (by omega)]; omega
    have hs : (decide (a.drop i = b.drop i)) = (decide (a[i] = b[i]) && decide (a.drop (i + 1) = b.drop (i + 1))) := by
      rw [List.drop_eq_getElem_cons hi, List.drop_eq_getElem_cons hi']
      simp only [List.cons.injEq, Bool.decide_and]
    refine Ev.step (f := fun k => if a[i] = b[i] then slices_Equal_int_int.l0 k a b (a.length : Int) ((i + 1 : Nat) : Int) else some false) (fun k => ?_) ?_
    · simp only [slices_Equal_int_int.l0]
      rw [if_pos (by omega), if_pos (by omega), if_pos (by omega), if_pos (by omega), rd_get a i hi, rd_get b i hi', e1]
    · rw [hs]
      by_cases h1 : a[i] = b[i]
      · refine Ev.pos h1 ?_
        rw [decide_eq_true h1]
        exact ih (i + 1) (by omega)
      · refine Ev.neg h1 ?_
        rw [decide_eq_false h1]
        exact Ev.now _
theorem equal_ev (a b : List Int) (hn : a.length ≤ 4611686018427387904) (hm : b.length ≤ 4611686018427387904) : Ev (fun k => slices_Equal_int_int.f k a b) (decide (a = b)) := by
  by_cases h : a.length = b.length
  · refine Ev.congr (f := fun k => slices_Equal_int_int.l0 k a b (a.length : Int) 0) (fun k => ?_) (by simpa using equal_l0 a b h hn a.length 0 (by omega))
    simp only [slices_Equal_int_int.f]
    rw [if_pos (by omega)]
  · refine Ev.at 0 (fun k hk => ?_)
    simp only [slices_Equal_int_int.f]
    rw [if_neg (by omega), decide_eq_false (fun e => h (by rw [e]))]
theorem sameR_ev (n : Int) (a b : List Int) : Ev (fun k => flash_Same.f k n a b) (sameR n a b) := by
  unfold flash_Same.f sameR
  simp only [listed_f, Option.bind_some]
  by_cases hz : listedN n a = 0
  · obtain ⟨m, rfl, hf⟩ := listedN_fine hz
    simp only [hz, if_true]
    by_cases hy : listedN (m : Int) b = 0
    · obtain ⟨m2, e2, hg⟩ := listedN_fine hy
      have e2 : m = m2 := by omega
      subst e2
      simp only [hy, if_true]
      simp only [normal_small hf, normal_small hg, Option.bind_some, Int.toNat_natCast]
      have := normal_len2 hf
      have := normal_len2 hg
      exact Ev.bnd (equal_ev _ _ (by omega) (by omega)) (Ev.now _)
    · simp only [if_neg hy]
      exact Ev.now _
  · simp only [if_neg hz]
    exact Ev.now _
theorem normalR_len (n : Int) (l : List Int) (h : (l.length : Int) ≤ 600) : (normalR n l).1.length ≤ 600 := by
  unfold normalR
  split
  · show (normalL n.toNat l).length ≤ 600
    rw [normalL_len]; omega
  · simp
end Go.Proofs.Ytnakkdaeehglnaa.P

set_option linter.unusedSimpArgs false
set_option linter.unusedVariables false
namespace Go.Proofs.Ytnakkdaeehglnaa.P
open Go.Lib Go.RowKit Go.Proofs.YtnakkdaeehglnaaW.PrintWords Go.Proofs.YtnakkdaeehglnaaW.PrintMore Go.Proofs.Ytnakkdaeehglnaa.Kit

/-- A state whose tubes go k places on, round. -/
def rotN (n k s : Nat) : Nat := s * 2 ^ k % 2 ^ n + s / 2 ^ (n - k)
theorem rot_form {n k s : Nat} (hk : k < n) (hs : s < 2 ^ n) : rotN n k s = 2 ^ k * (s % 2 ^ (n - k)) + s / 2 ^ (n - k) ∧ s / 2 ^ (n - k) < 2 ^ k := by
  have e : 2 ^ n = 2 ^ (n - k) * 2 ^ k := by rw [← Nat.pow_add]; congr 1; omega
  constructor
  · unfold rotN
    rw [e, Nat.mul_mod_mul_right, Nat.mul_comm]
  · rw [Nat.div_lt_iff_lt_mul (Nat.two_pow_pos _), Nat.mul_comm, ← e]
    exact hs
theorem rot_bit {n k s : Nat} (hk : k < n) (hs : s < 2 ^ n) (j : Nat) : (rotN n k s).testBit j = if j < k then s.testBit (n - k + j) else (decide (j < n) && s.testBit (j - k)) := by
  obtain ⟨e, h⟩ := rot_form hk hs
  rw [e, Nat.testBit_two_pow_mul_add _ h]
  by_cases hj : j < k
  · rw [if_pos hj, if_pos hj, Nat.testBit_div_two_pow, Nat.add_comm]
  · rw [if_neg hj, if_neg hj, Nat.testBit_mod_two_pow]
    congr 1
    rw [decide_eq_decide]
    omega
theorem rot_fwd {n k s : Nat} (hk : k < n) (hs : s < 2 ^ n) {t : Nat} (ht : t < n) : (rotN n k s).testBit ((t + k) % n) = s.testBit t := by
  rw [rot_bit hk hs]
  by_cases h : t + k < n
  · rw [Nat.mod_eq_of_lt h, if_neg (by omega), decide_eq_true (by omega), Bool.true_and]
    congr 1
    omega
  · rw [Nat.mod_eq_sub_mod (by omega), Nat.mod_eq_of_lt (by omega), if_pos (by omega)]
    congr 1
    omega
theorem rot_lt {n k s : Nat} (hk : k < n) (hs : s < 2 ^ n) : rotN n k s < 2 ^ n := by
  apply Nat.lt_pow_two_of_testBit
  intro j hj
  rw [rot_bit hk hs, if_neg (by omega), decide_eq_false (by omega), Bool.false_and]
theorem bits_lt {n x y : Nat} (hx : x < 2 ^ n) (hy : y < 2 ^ n) (h : ∀ t, t < n → x.testBit t = y.testBit t) : x = y := by
  apply Nat.eq_of_testBit_eq
  intro t
  by_cases ht : t < n
  · exact h t ht
  · have hp := Nat.pow_le_pow_right (n := 2) (by decide) (show n ≤ t by omega)
    rw [Nat.testBit_lt_two_pow (by omega), Nat.testBit_lt_two_pow (by omega)]
theorem rot_inj {n k x y : Nat} (hk : k < n) (hx : x < 2 ^ n) (hy : y < 2 ^ n) (h : rotN n k x = rotN n k y) : x = y :=
  bits_lt hx hy (fun t ht => by rw [← rot_fwd hk hx ht, ← rot_fwd hk hy ht, h])
theorem rot_xor {n k x y : Nat} (hk : k < n) (hx : x < 2 ^ n) (hy : y < 2 ^ n) : rotN n k (x ^^^ y) = rotN n k x ^^^ rotN n k y := by
  apply Nat.eq_of_testBit_eq
  intro j
  rw [Nat.testBit_xor, rot_bit hk hx, rot_bit hk hy, rot_bit hk (Nat.xor_lt_two_pow hx hy)]
  by_cases hj : j < k
  · rw [if_pos hj, if_pos hj, if_pos hj, Nat.testBit_xor]
  · rw [if_neg hj, if_neg hj, if_neg hj, Nat.testBit_xor]
    cases decide (j < n) <;> simp
theorem rot_pow {n k t : Nat} (hk : k < n) (ht : t < n) : rotN n k (2 ^ t) = 2 ^ ((t + k) % n) := by
  have h1 : 2 ^ t < 2 ^ n := Nat.pow_lt_pow_right (by decide) ht
  have h2 : (t + k) % n < n := Nat.mod_lt _ (by omega)
  refine bits_lt (rot_lt hk h1) (Nat.pow_lt_pow_right (by decide) h2) (fun j hj => ?_)
  rw [rot_bit hk h1, Nat.testBit_two_pow, Nat.testBit_two_pow, Nat.testBit_two_pow]
  by_cases h : t + k < n
  · rw [Nat.mod_eq_of_lt h]
    by_cases hjk : j < k
    · rw [if_pos hjk, decide_eq_decide]; omega
    · rw [if_neg hjk, decide_eq_true hj, Bool.true_and, decide_eq_decide]; omega
  · rw [Nat.mod_eq_sub_mod (by omega), Nat.mod_eq_of_lt (by omega)]
    by_cases hjk : j < k
    · rw [if_pos hjk, decide_eq_decide]; omega
    · rw [if_neg hjk, decide_eq_true hj, Bool.true_and, decide_eq_decide]; omega
theorem rot_back {n k u : Nat} (hk : k < n) (hu : u < n) : ∃ t, t < n ∧ (t + k) % n = u := by
  by_cases h : k ≤ u
  · exact ⟨u - k, by omega, by rw [Nat.mod_eq_of_lt (by omega)]; omega⟩
  · exact ⟨u + n - k, by omega, by rw [Nat.mod_eq_sub_mod (by omega), Nat.mod_eq_of_lt (by omega)]; omega⟩
theorem rot_two {n k x : Nat} (hk : k < n) (hx : x < 2 ^ n) : (∃ t, t < n ∧ rotN n k x = 2 ^ t) ↔ ∃ t, t < n ∧ x = 2 ^ t := by
  constructor
  · rintro ⟨u, hu, e⟩
    obtain ⟨t, ht, rfl⟩ := rot_back hk hu
    exact ⟨t, ht, rot_inj hk hx (Nat.pow_lt_pow_right (by decide) ht) (by rw [e, rot_pow hk ht])⟩
  · rintro ⟨t, ht, rfl⟩
    exact ⟨(t + k) % n, Nat.mod_lt _ (by omega), rot_pow hk ht⟩
end Go.Proofs.Ytnakkdaeehglnaa.P

set_option linter.unusedSimpArgs false
set_option linter.unusedVariables false
namespace Go.Proofs.Ytnakkdaeehglnaa.P
open Go.Lib Go.RowKit Go.Proofs.YtnakkdaeehglnaaW.PrintWords Go.Proofs.YtnakkdaeehglnaaW.PrintMore Go.Proofs.Ytnakkdaeehglnaa.Kit

def newB (l : List Int) (i : Nat) : Nat → Nat → Bool := okFrom (fun q => decide (rd l (q : Int) ≠ rd l (i : Int)))
def stepB (l : List Int) (i : Nat) : Bool := (decide (i = 0) || nx (rd l ((i - 1 : Nat) : Int)) (rd l (i : Int))) && newB l i i 0
theorem newB_has {l : List Int} {i : Nat} (hi : i < l.length) : newB l i i 0 = !(l.take i).contains (rd l (i : Int)) := by
  unfold newB
  rw [Bool.eq_iff_iff, okFrom_iff, Bool.not_eq_true', Bool.eq_false_iff, ne_eq, List.contains_iff_mem, List.mem_take_iff_getElem]
  constructor
  · rintro h ⟨j, hj, e⟩
    have h2 := of_decide_eq_true (h j (by omega) (by omega))
    rw [rd_get l j (by omega)] at h2
    exact h2 e
  · intro h j _ hj
    refine decide_eq_true (fun e => h ⟨j, by omega, ?_⟩)
    rw [rd_get l j (by omega)] at e
    exact e
theorem stepB_p {l : List Int} {i : Nat} (hi : i < l.length) : stepB l i = pStep l i := by
  unfold stepB pStep
  rw [newB_has hi, Bool.and_comm]
  by_cases h0 : i = 0
  · rw [decide_eq_true h0, Bool.true_or, Bool.true_or]
  · rw [show ((i - 1 : Nat) : Int) = (i : Int) - 1 from by omega]
theorem path_ok (l : List Int) : okFrom (stepB l) l.length 0 = pathB l := by
  unfold pathB
  rw [Bool.eq_iff_iff, okFrom_iff, List.all_eq_true]
  constructor
  · intro h i hi
    rw [← stepB_p (List.mem_range.1 hi)]
    exact h i (by omega) (by have := List.mem_range.1 hi; omega)
  · intro h i _ hi
    rw [stepB_p (by omega)]
    exact h i (List.mem_range.2 (by omega))
end Go.Proofs.Ytnakkdaeehglnaa.P

set_option linter.unusedSimpArgs false
set_option linter.unusedVariables false
namespace Go.Proofs.Ytnakkdaeehglnaa.P
open Go.Lib Go.RowKit Go.Proofs.YtnakkdaeehglnaaW.PrintWords Go.Proofs.YtnakkdaeehglnaaW.PrintMore Go.Proofs.Ytnakkdaeehglnaa.Kit

theorem one_two_all' : ((List.range 64).all fun a => (List.range 64).all fun b => ((List.range 12).any fun t => 2 ^ t == 64 * a + b) == oneN (64 * a + b)) = true := by decide +kernel
theorem one_two' {x : Nat} (h : x < 4096) (ho : oneN x = true) : ∃ t, t < 12 ∧ x = 2 ^ t := by
  have h1 := one_two_all'
  rw [List.all_eq_true] at h1
  have h2 := h1 (x / 64) (List.mem_range.2 (by omega))
  rw [List.all_eq_true] at h2
  have h3 := h2 (x % 64) (List.mem_range.2 (by omega))
  rw [show 64 * (x / 64) + x % 64 = x from by omega] at h3
  rw [← beq_iff_eq.1 h3, List.any_eq_true] at ho
  obtain ⟨t, ht, e⟩ := ho
  exact ⟨t, List.mem_range.1 ht, (beq_iff_eq.1 e).symm⟩
theorem bitLen_two : ∀ t : Fin 12, Lib.bitLen (2 ^ t.val) = t.val + 1 := by decide +kernel
/-- The tube in which two states differ. -/
def tg (l : List Int) (i j : Nat) : Nat := Lib.bitLen ((rd l (i : Int)).toNat ^^^ (rd l (j : Int)).toNat) - 1
theorem tg_comm (l : List Int) (i j : Nat) : tg l i j = tg l j i := by unfold tg; rw [Nat.xor_comm]
theorem tg_two {n : Nat} {l : List Int} (h : Fine n l) {i j : Nat} (hi : i < l.length) (hj : j < l.length) (hn : nx (rd l (i : Int)) (rd l (j : Int)) = true) :
    (rd l (i : Int)).toNat ^^^ (rd l (j : Int)).toNat = 2 ^ tg l i j ∧ tg l i j < n ∧ Lib.bitLen ((rd l (i : Int)).toNat ^^^ (rd l (j : Int)).toNat) = tg l i j + 1 := by
  have ri := h.rd i hi
  have rj := h.rd j hj
  rw [nx_one ri rj] at hn
  have hb1 := h.all _ (List.getElem_mem hi)
  have hb2 := h.all _ (List.getElem_mem hj)
  rw [rd_get l i hi] at *
  rw [rd_get l j hj] at *
  have hx : l[i].toNat ^^^ l[j].toNat < 2 ^ n := Nat.xor_lt_two_pow (by omega) (by omega)
  have hp := pow12' h.n2
  obtain ⟨t, ht, e⟩ := one_two' (by omega) hn
  have hbl := bitLen_two ⟨t, ht⟩
  simp only at hbl
  have etg : tg l i j = t := by
    unfold tg
    rw [rd_get l i hi, rd_get l j hj, e, hbl]
    rfl
  rw [etg, e, hbl]
  refine ⟨rfl, ?_, rfl⟩
  rcases Nat.lt_or_ge t n with h1 | h1
  · exact h1
  · have := Nat.pow_le_pow_right (n := 2) (by decide) h1
    omega
/-- One more change of a tube. -/
def incr (out : List Int) (t : Nat) : List Int := out.set t (rd out (t : Int) + 1)
theorem incr_len (out : List Int) (t : Nat) : (incr out t).length = out.length := by unfold incr; rw [List.length_set]
/-- Each number is from 0 to m. -/
def upto (out : List Int) (m : Nat) : Prop := ∀ x, x ∈ out → 0 ≤ x ∧ x ≤ (m : Int)
theorem upto_rd {out : List Int} {m : Nat} (h : upto out m) (t : Nat) : 0 ≤ rd out (t : Int) ∧ rd out (t : Int) ≤ m := by
  unfold rd
  rw [Int.toNat_natCast, List.getD_eq_getElem?_getD]
  cases hx : out[t]? with
  | none => simp
  | some x => exact h x (List.mem_of_getElem? hx)
theorem upto_incr {out : List Int} {m : Nat} (h : upto out m) (t : Nat) : upto (incr out t) (m + 1) := by
  intro x hx
  unfold incr at hx
  rcases List.mem_or_eq_of_mem_set hx with hx | rfl
  · have := h x hx; omega
  · have := upto_rd h t; omega
def chg (n : Nat) (l : List Int) (m : Nat) : List Int := (List.range m).foldl (fun out (i : Nat) => incr out (tg l i (i + 1))) (List.replicate n 0)
theorem chg_succ (n : Nat) (l : List Int) (m : Nat) : chg n l (m + 1) = incr (chg n l m) (tg l m (m + 1)) := by
  unfold chg
  rw [List.range_succ, List.foldl_append, List.foldl_cons, List.foldl_nil]
theorem chg_len (n : Nat) (l : List Int) (m : Nat) : (chg n l m).length = n := by
  induction m with
  | zero => unfold chg; simp
  | succ m ih => rw [chg_succ, incr_len, ih]
theorem chg_upto (n : Nat) (l : List Int) (m : Nat) : upto (chg n l m) m := by
  induction m with
  | zero =>
    intro x hx
    unfold chg at hx
    have := List.eq_of_mem_replicate hx
    omega
  | succ m ih => rw [chg_succ]; exact upto_incr ih _
def changesL (n : Nat) (l : List Int) : List Int := if closedB l = true then incr (chg n l (l.length - 1)) (tg l 0 (l.length - 1)) else chg n l (l.length - 1)
theorem path_next {l : List Int} (h : pathB l = true) {i : Nat} (hi : i + 1 < l.length) : nx (rd l (i : Int)) (rd l ((i + 1 : Nat) : Int)) = true := by
  unfold pathB at h
  have h1 := List.all_eq_true.1 h (i + 1) (List.mem_range.2 hi)
  unfold pStep at h1
  rw [Bool.and_eq_true, Bool.or_eq_true] at h1
  rcases h1.2 with h2 | h2
  · have := of_decide_eq_true h2; omega
  · rw [show (((i + 1 : Nat) : Int) - 1) = (i : Int) from by omega] at h2
    exact h2
end Go.Proofs.Ytnakkdaeehglnaa.P

set_option linter.unusedSimpArgs false
set_option linter.unusedVariables false
namespace Go.Proofs.Ytnakkdaeehglnaa.P
open Go.Lib Go.RowKit Go.Proofs.YtnakkdaeehglnaaW.PrintWords Go.Proofs.YtnakkdaeehglnaaW.PrintMore Go.Proofs.Ytnakkdaeehglnaa.Kit

def sumL (l : List Int) : Int := l.foldr (· + ·) 0
theorem sum_set : ∀ (l : List Int) (t : Nat) (x : Int), t < l.length → sumL (l.set t x) = sumL l - rd l (t : Int) + x := by
  intro l
  induction l with
  | nil => intro t x h; exact absurd h (by simp)
  | cons a l ih =>
    intro t x h
    cases t with
    | zero =>
      unfold sumL rd
      simp
      omega
    | succ t =>
      have h2 : t < l.length := by simpa using h
      have h1 := ih t x h2
      have e : rd (a :: l) ((t + 1 : Nat) : Int) = rd l (t : Int) := by
        rw [rd_get (a :: l) (t + 1) h, rd_get l t h2]
        rfl
      rw [e]
      unfold sumL at h1 ⊢
      rw [List.set_cons_succ, List.foldr_cons, List.foldr_cons, h1]
      omega
theorem sum_incr {out : List Int} {t : Nat} (h : t < out.length) : sumL (incr out t) = sumL out + 1 := by
  unfold incr
  rw [sum_set _ _ _ h]
  omega
theorem sum_zeros (n : Nat) : sumL (List.replicate n 0) = 0 := by
  induction n with
  | zero => rfl
  | succ n ih =>
    unfold sumL at ih ⊢
    rw [List.replicate_succ, List.foldr_cons, ih]
    rfl
theorem sum_chg {n : Nat} {l : List Int} (h : Fine n l) (hp : pathB l = true) : ∀ m, m + 1 ≤ l.length → sumL (chg n l m) = m := by
  intro m
  induction m with
  | zero => intro _; unfold chg; exact sum_zeros n
  | succ m ih =>
    intro hm
    have ht := (tg_two h (by omega) (by omega) (path_next hp (i := m) (by omega))).2.1
    rw [chg_succ, sum_incr (by rw [chg_len]; exact ht), ih (by omega)]
    omega
theorem closed_nx {l : List Int} (hc : closedB l = true) : 4 ≤ l.length ∧ nx (rd l ((0 : Nat) : Int)) (rd l ((l.length - 1 : Nat) : Int)) = true := by
  unfold closedB at hc
  rw [Bool.and_eq_true] at hc
  exact ⟨of_decide_eq_true hc.1, hc.2⟩
theorem sum_changes {n : Nat} {l : List Int} (h : Fine n l) (hp : pathB l = true) : sumL (changesL n l) = if closedB l = true then (l.length : Int) else (l.length : Int) - 1 := by
  have hpos := h.pos
  have hs := sum_chg h hp (l.length - 1) (by omega)
  unfold changesL
  cases hc : closedB l with
  | true =>
    obtain ⟨h4, hn⟩ := closed_nx hc
    have ht := (tg_two h (by omega) (by omega) hn).2.1
    rw [if_pos rfl, if_pos rfl, sum_incr (by rw [chg_len]; exact ht), hs]
    omega
  | false => rw [if_neg (by decide), if_neg (by decide), hs]; omega
/-- Whether a tube is lit. -/
def bt2 (l : List Int) (i t : Nat) : Bool := (rd l (i : Int)).toNat.testBit t
theorem incr_rd (out : List Int) (u t : Nat) (hu : u < out.length) : rd (incr out u) (t : Int) = rd out (t : Int) + if t = u then 1 else 0 := by
  unfold incr rd
  rw [Int.toNat_natCast, List.getD_eq_getElem?_getD, List.getD_eq_getElem?_getD, Int.toNat_natCast, List.getD_eq_getElem?_getD]
  by_cases e : t = u
  · subst e
    rw [List.getElem?_set_self hu, if_pos rfl]
    rfl
  · rw [List.getElem?_set_ne (fun e2 => e e2.symm), if_neg e]
    omega
theorem bit_flip {n : Nat} {l : List Int} (h : Fine n l) {i j : Nat} (hi : i < l.length) (hj : j < l.length) (hn : nx (rd l (i : Int)) (rd l (j : Int)) = true) (t : Nat) :
    (bt2 l i t != bt2 l j t) = decide (t = tg l i j) := by
  have e := (tg_two h hi hj hn).1
  unfold bt2
  have h1 : ((rd l (i : Int)).toNat ^^^ (rd l (j : Int)).toNat).testBit t = (2 ^ tg l i j).testBit t := by rw [e]
  rw [Nat.testBit_xor, Nat.testBit_two_pow] at h1
  have h2 : ∀ a b : Bool, (a != b) = (a ^^ b) := by decide
  rw [h2, h1]
  rw [Bool.eq_iff_iff, decide_eq_true_eq, decide_eq_true_eq]
  exact eq_comm
/-- How often a tube has changed is odd exactly if it is another one than at the begin. -/
theorem chg_parity {n : Nat} {l : List Int} (h : Fine n l) (hp : pathB l = true) (t : Nat) : ∀ m, m + 1 ≤ l.length → rd (chg n l m) (t : Int) % 2 = if (bt2 l 0 t != bt2 l m t) = true then 1 else 0 := by
  intro m
  induction m with
  | zero =>
    intro _
    rw [bne_self_eq_false, if_neg (by decide)]
    unfold chg rd
    rw [Int.toNat_natCast, List.getD_eq_getElem?_getD]
    simp only [List.range_zero, List.foldl_nil, List.getElem?_replicate]
    split <;> rfl
  | succ m ih =>
    intro hm
    have hn := path_next hp (i := m) (by omega)
    have ht := (tg_two h (by omega) (by omega) hn).2.1
    have hf := bit_flip h (by omega) (by omega) hn t
    have h1 := ih (by omega)
    rw [chg_succ, incr_rd _ _ _ (by rw [chg_len]; exact ht)]
    by_cases e : t = tg l m (m + 1)
    · rw [decide_eq_true e] at hf
      rw [if_pos e]
      generalize bt2 l 0 t = a at h1 ⊢
      generalize bt2 l m t = b at h1 hf
      generalize bt2 l (m + 1) t = c at hf ⊢
      revert h1 hf
      cases a <;> cases b <;> cases c <;> intro h1 hf <;> first | (cases hf; done) | (simp at h1 ⊢; omega)
    · rw [decide_eq_false e] at hf
      rw [if_neg e, Int.add_zero, h1]
      generalize bt2 l 0 t = a
      generalize bt2 l m t = b at hf ⊢
      generalize bt2 l (m + 1) t = c at hf ⊢
      revert hf
      cases a <;> cases b <;> cases c <;> intro hf <;> first | (cases hf; done) | rfl
theorem changes_even {n : Nat} {l : List Int} (h : Fine n l) (hp : pathB l = true) (hc : closedB l = true) (t : Nat) : rd (changesL n l) (t : Int) % 2 = 0 := by
  have hpos := h.pos
  obtain ⟨h4, hn⟩ := closed_nx hc
  have ht := (tg_two h (by omega) (by omega) hn).2.1
  have hf := bit_flip h (by omega) (by omega) hn t
  have h1 := chg_parity h hp t (l.length - 1) (by omega)
  unfold changesL
  rw [if_pos hc, incr_rd _ _ _ (by rw [chg_len]; exact ht)]
  rw [hf] at h1
  by_cases e : t = tg l 0 (l.length - 1)
  · rw [decide_eq_true e, if_pos rfl] at h1
    rw [if_pos e]
    omega
  · rw [decide_eq_false e, if_neg (by decide)] at h1
    rw [if_neg e]
    omega
theorem changesL_len (n : Nat) (l : List Int) : (changesL n l).length = n := by
  unfold changesL
  split
  · rw [incr_len, chg_len]
  · exact chg_len _ _ _
theorem changesL_upto {n : Nat} {l : List Int} (h : Fine n l) : upto (changesL n l) 5000 := by
  have hl := h.le
  have hc := chg_upto n l (l.length - 1)
  intro x hx
  unfold changesL at hx
  split at hx
  · have := upto_incr hc _ x hx; omega
  · have := hc x hx; omega
end Go.Proofs.Ytnakkdaeehglnaa.P

set_option linter.unusedSimpArgs false
set_option linter.unusedVariables false
namespace Go.Proofs.Ytnakkdaeehglnaa.P
open Go.Lib Go.RowKit Go.Proofs.YtnakkdaeehglnaaW.PrintWords Go.Proofs.YtnakkdaeehglnaaW.PrintMore Go.Proofs.Ytnakkdaeehglnaa.Kit


theorem oneN_iff {n x : Nat} (hn : n ≤ 12) (hx : x < 2 ^ n) : oneN x = true ↔ ∃ t, t < n ∧ x = 2 ^ t := by
  have hp := pow12' hn
  constructor
  · intro h
    obtain ⟨t, ht, e⟩ := one_two' (by omega) h
    refine ⟨t, ?_, e⟩
    rcases Nat.lt_or_ge t n with h1 | h1
    · exact h1
    · have := Nat.pow_le_pow_right (n := 2) (by decide) h1
      omega
  · rintro ⟨t, _, rfl⟩
    exact one_pow t
theorem one_rot {n k x : Nat} (hn : n ≤ 12) (hk : k < n) (hx : x < 2 ^ n) : oneN (rotN n k x) = oneN x := by
  rw [Bool.eq_iff_iff, oneN_iff hn (rot_lt hk hx), oneN_iff hn hx]
  exact rot_two hk hx
/-- The tubes go k places on, round, and those of z are inverted. -/
def moved (n k z : Nat) (a : List Int) : List Int := a.map fun s => (rotN n k (s.toNat ^^^ z) : Int)
section
variable {n k z : Nat} {a : List Int}
theorem moved_len : (moved n k z a).length = a.length := by unfold moved; simp
theorem moved_rd (i : Nat) (hi : i < a.length) : rd (moved n k z a) (i : Int) = (rotN n k ((rd a (i : Int)).toNat ^^^ z) : Int) := by
  rw [rd_get _ i (by rw [moved_len]; exact hi), rd_get a i hi]
  unfold moved
  rw [List.getElem_map]
theorem fine_bit (h : Fine n a) (i : Nat) (hi : i < a.length) : (rd a (i : Int)).toNat < 2 ^ n := by
  have := h.all _ (List.getElem_mem hi)
  rw [rd_get a i hi]
  omega
theorem moved_fine (h : Fine n a) (hk : k < n) (hz : z < 2 ^ n) : Fine n (moved n k z a) := by
  refine ⟨h.n1, h.n2, by rw [moved_len]; exact h.pos, by rw [moved_len]; exact h.len, fun x hx => ?_⟩
  unfold moved at hx
  obtain ⟨s, hs, rfl⟩ := List.mem_map.1 hx
  have := h.all s hs
  have := rot_lt hk (Nat.xor_lt_two_pow (show s.toNat < 2 ^ n by omega) hz)
  omega
theorem moved_xor (h : Fine n a) (hk : k < n) (hz : z < 2 ^ n) (i j : Nat) (hi : i < a.length) (hj : j < a.length) :
    (rd (moved n k z a) (i : Int)).toNat ^^^ (rd (moved n k z a) (j : Int)).toNat = rotN n k ((rd a (i : Int)).toNat ^^^ (rd a (j : Int)).toNat) := by
  rw [moved_rd i hi, moved_rd j hj, Int.toNat_natCast, Int.toNat_natCast, ← rot_xor hk (Nat.xor_lt_two_pow (fine_bit h i hi) hz) (Nat.xor_lt_two_pow (fine_bit h j hj) hz)]
  congr 1
  generalize (rd a (i : Int)).toNat = x
  generalize (rd a (j : Int)).toNat = y
  rw [Nat.xor_assoc, ← Nat.xor_assoc z, Nat.xor_comm z y, Nat.xor_assoc, Nat.xor_self, Nat.xor_zero]
theorem moved_nx (h : Fine n a) (hk : k < n) (hz : z < 2 ^ n) (i j : Nat) (hi : i < a.length) (hj : j < a.length) :
    nx (rd (moved n k z a) (i : Int)) (rd (moved n k z a) (j : Int)) = nx (rd a (i : Int)) (rd a (j : Int)) := by
  have hm := moved_fine h hk hz
  rw [nx_one (hm.rd i (by rw [moved_len]; exact hi)) (hm.rd j (by rw [moved_len]; exact hj)), nx_one (h.rd i hi) (h.rd j hj), moved_xor h hk hz i j hi hj, one_rot h.n2 hk (Nat.xor_lt_two_pow (fine_bit h i hi) (fine_bit h j hj))]
theorem moved_eq (h : Fine n a) (hk : k < n) (hz : z < 2 ^ n) (i j : Nat) (hi : i < a.length) (hj : j < a.length) :
    rd (moved n k z a) (i : Int) = rd (moved n k z a) (j : Int) ↔ rd a (i : Int) = rd a (j : Int) := by
  have ri := h.rd i hi
  have rj := h.rd j hj
  rw [moved_rd i hi, moved_rd j hj]
  constructor
  · intro e
    have e2 := rot_inj hk (Nat.xor_lt_two_pow (fine_bit h i hi) hz) (Nat.xor_lt_two_pow (fine_bit h j hj) hz) (by omega)
    have e3 : ((rd a (i : Int)).toNat ^^^ z) ^^^ z = ((rd a (j : Int)).toNat ^^^ z) ^^^ z := by rw [e2]
    rw [Nat.xor_assoc, Nat.xor_assoc, Nat.xor_self, Nat.xor_zero, Nat.xor_zero] at e3
    omega
  · intro e; rw [e]
theorem okFrom_congr {p q : Nat → Bool} {d j : Nat} (h : ∀ x, j ≤ x → x < j + d → p x = q x) : okFrom p d j = okFrom q d j := by
  rw [Bool.eq_iff_iff, okFrom_iff, okFrom_iff]
  constructor
  · intro h1 x a b; rw [← h x a b]; exact h1 x a b
  · intro h1 x a b; rw [h x a b]; exact h1 x a b
theorem moved_path (h : Fine n a) (hk : k < n) (hz : z < 2 ^ n) : pathB (moved n k z a) = pathB a := by
  rw [← path_ok, ← path_ok, moved_len]
  refine okFrom_congr (fun i _ hi => ?_)
  have e2 : newB (moved n k z a) i i 0 = newB a i i 0 := by
    unfold newB
    refine okFrom_congr (fun q _ hq => ?_)
    rw [decide_eq_decide]
    exact not_congr (moved_eq h hk hz q i (by omega) (by omega))
  unfold stepB
  rw [e2]
  by_cases h0 : i = 0
  · rw [decide_eq_true h0, Bool.true_or, Bool.true_or]
  · rw [decide_eq_false h0, Bool.false_or, Bool.false_or, moved_nx h hk hz (i - 1) i (by omega) (by omega)]
theorem moved_closed (h : Fine n a) (hk : k < n) (hz : z < 2 ^ n) : closedB (moved n k z a) = closedB a := by
  unfold closedB
  rw [moved_len]
  have hp := h.pos
  have := moved_nx h hk hz 0 (a.length - 1) hp (by omega)
  rw [show ((0 : Nat) : Int) = 0 from rfl] at this
  rw [this]
theorem moved_snake (h : Fine n a) (hk : k < n) (hz : z < 2 ^ n) (r : Bool) : snakeB (moved n k z a) r = snakeB a r := by
  unfold snakeB
  rw [moved_len]
  refine okFrom_congr (fun i _ hi => okFrom_congr (fun j _ hj => ?_))
  unfold pairOk
  rw [moved_len, moved_nx h hk hz i j (by omega) (by omega)]
theorem moved_tg (h : Fine n a) (hk : k < n) (hz : z < 2 ^ n) (i j : Nat) (hi : i < a.length) (hj : j < a.length) (hn : nx (rd a (i : Int)) (rd a (j : Int)) = true) :
    tg (moved n k z a) i j = (tg a i j + k) % n := by
  have hn2 := moved_nx h hk hz i j hi hj
  rw [hn] at hn2
  have h1 := (tg_two (moved_fine h hk hz) (by rw [moved_len]; exact hi) (by rw [moved_len]; exact hj) hn2).1
  have h2 := tg_two h hi hj hn
  rw [moved_xor h hk hz i j hi hj, h2.1, rot_pow hk h2.2.1] at h1
  exact ((Nat.pow_right_inj (by decide)).1 h1).symm
theorem shift_eq {t u : Nat} (ht : t < n) (hu : u < n) (hk : k < n) : (t + k) % n = (u + k) % n ↔ t = u := by
  constructor
  · intro e
    rcases Nat.lt_or_ge (t + k) n with h1 | h1 <;> rcases Nat.lt_or_ge (u + k) n with h2 | h2
    · rw [Nat.mod_eq_of_lt h1, Nat.mod_eq_of_lt h2] at e; omega
    · rw [Nat.mod_eq_of_lt h1, Nat.mod_eq_sub_mod h2, Nat.mod_eq_of_lt (by omega)] at e; omega
    · rw [Nat.mod_eq_of_lt h2, Nat.mod_eq_sub_mod h1, Nat.mod_eq_of_lt (by omega)] at e; omega
    · rw [Nat.mod_eq_sub_mod h1, Nat.mod_eq_sub_mod h2, Nat.mod_eq_of_lt (by omega), Nat.mod_eq_of_lt (by omega)] at e; omega
  · intro e; rw [e]
theorem moved_chg (h : Fine n a) (hk : k < n) (hz : z < 2 ^ n) (hp : pathB a = true) {t : Nat} (ht : t < n) : ∀ m, m + 1 ≤ a.length →
    rd (chg n (moved n k z a) m) (((t + k) % n : Nat) : Int) = rd (chg n a m) (t : Int) := by
  intro m
  induction m with
  | zero =>
    intro _
    unfold chg rd
    rw [Int.toNat_natCast, Int.toNat_natCast, List.getD_eq_getElem?_getD, List.getD_eq_getElem?_getD]
    have : (t + k) % n < n := Nat.mod_lt _ (by omega)
    simp [List.getElem?_replicate, ht, this]
  | succ m ih =>
    intro hm
    have hn := path_next hp (i := m) (by omega)
    have h2 := tg_two h (by omega) (by omega) hn
    have h3 := moved_tg h hk hz m (m + 1) (by omega) (by omega) hn
    have h4 : (tg a m (m + 1) + k) % n < n := Nat.mod_lt _ (by omega)
    rw [chg_succ, chg_succ, incr_rd _ _ _ (by rw [chg_len, h3]; exact h4), incr_rd _ _ _ (by rw [chg_len]; exact h2.2.1), ih (by omega), h3]
    have := shift_eq ht h2.2.1 hk
    by_cases e : t = tg a m (m + 1)
    · rw [if_pos (this.2 e), if_pos e]
    · rw [if_neg (fun e2 => e (this.1 e2)), if_neg e]
theorem moved_changes (h : Fine n a) (hk : k < n) (hz : z < 2 ^ n) (hp : pathB a = true) {t : Nat} (ht : t < n) :
    rd (changesL n (moved n k z a)) (((t + k) % n : Nat) : Int) = rd (changesL n a) (t : Int) := by
  have hpos := h.pos
  unfold changesL
  rw [moved_closed h hk hz, moved_len]
  cases hc : closedB a with
  | false => rw [if_neg (by decide), if_neg (by decide), moved_chg h hk hz hp ht _ (by omega)]
  | true =>
    obtain ⟨h4, hn⟩ := closed_nx hc
    have h2 := tg_two h (by omega) (by omega) hn
    have h3 := moved_tg h hk hz 0 (a.length - 1) (by omega) (by omega) hn
    have h4 : (tg a 0 (a.length - 1) + k) % n < n := Nat.mod_lt _ (by omega)
    rw [if_pos rfl, if_pos rfl, incr_rd _ _ _ (by rw [chg_len, h3]; exact h4), incr_rd _ _ _ (by rw [chg_len]; exact h2.2.1), moved_chg h hk hz hp ht _ (by omega), h3]
    have := shift_eq ht h2.2.1 hk
    by_cases e : t = tg a 0 (a.length - 1)
    · rw [if_pos (this.2 e), if_pos e]
    · rw [if_neg (fun e2 => e (this.1 e2)), if_neg e]
theorem moved_normal (h : Fine n a) (hk : k < n) (hz : z < 2 ^ n) : normalL n (moved n k z a) = normalL n a := by
  have hpos := h.pos
  refine normal_same h.n1 (fun t => (((t.toNat + k) % n : Nat) : Int)) ?_ a _ moved_len (fun i hi t ht => ?_)
  · have hnd : ((ups n).map fun t => (((t.toNat + k) % n : Nat) : Int)).Nodup := by
      unfold List.Nodup
      rw [List.pairwise_map]
      refine (ups_nodup n).imp_of_mem (fun {x y} hx hy hne e => hne ?_)
      have hx := ups_mem.1 hx
      have hy := ups_mem.1 hy
      have := (shift_eq (n := n) (k := k) (t := x.toNat) (u := y.toNat) (by omega) (by omega) hk).1 (by omega)
      omega
    refine (List.perm_ext_iff_of_nodup (ups_nodup n) hnd).2 (fun u => ?_)
    rw [List.mem_map, ups_mem]
    constructor
    · rintro ⟨h0, h1⟩
      obtain ⟨t, ht, e⟩ := rot_back hk (show u.toNat < n by omega)
      exact ⟨(t : Int), ups_mem.2 ⟨by omega, by omega⟩, by rw [Int.toNat_natCast, e]; omega⟩
    · rintro ⟨t, _, rfl⟩
      have : (t.toNat + k) % n < n := Nat.mod_lt _ (by omega)
      omega
  · have ht := ups_mem.1 ht
    rw [litB_bit, litB_bit]
    unfold xr
    rw [Int.toNat_natCast, Int.toNat_natCast, Int.toNat_natCast]
    have := moved_xor h hk hz i 0 hi hpos
    rw [show ((0 : Nat) : Int) = 0 from rfl] at this
    have hb0 := fine_bit h 0 hpos
    rw [show ((0 : Nat) : Int) = 0 from rfl] at hb0
    rw [this, rot_fwd hk (Nat.xor_lt_two_pow (fine_bit h i hi) hb0) (by omega)]
end
end Go.Proofs.Ytnakkdaeehglnaa.P

set_option linter.unusedSimpArgs false
set_option linter.unusedVariables false
namespace Go.Proofs.Ytnakkdaeehglnaa.P
open Go.Lib Go.RowKit Go.Proofs.YtnakkdaeehglnaaW.PrintWords Go.Proofs.YtnakkdaeehglnaaW.PrintMore Go.Proofs.Ytnakkdaeehglnaa.Kit

theorem len_at {n : Nat} {l : List Int} (h : Fine n l) {i j : Nat} (hi : i < l.length) (hj : j < l.length) (hn : nx (rd l (i : Int)) (rd l (j : Int)) = true) :
    bits_Len.f (IntKind.u64.wrap (Go.bits .xor .i64 (rd l (i : Int)) (rd l (j : Int)))) = some ((tg l i j + 1 : Nat) : Int) := by
  rw [bits_len_small (sm (h.rd i hi)) (sm (h.rd j hj)), (tg_two h hi hj hn).2.2]
theorem chg_l0 {n : Nat} {l : List Int} (h : Fine n l) (hp : pathB l = true) : ∀ d i, l.length - i = d → 1 ≤ i → i ≤ l.length →
    Ev (fun k => flash_Changes.l0 k l (chg n l (i - 1)) (i : Int)) (changesL n l, 0) := by
  have hl := h.le
  have hn2 := h.n2
  have hpos := h.pos
  intro d
  induction d with
  | zero =>
    intro i hd h1 hi
    obtain rfl : i = l.length := by omega
    unfold changesL
    refine Ev.at 1 (fun k hk => ?_)
    obtain ⟨k, rfl⟩ : ∃ j, k = j + 1 := ⟨k - 1, by omega⟩
    have hcl := chg_len n l (l.length - 1)
    have hup := chg_upto n l (l.length - 1)
    simp only [flash_Changes.l0]
    rw [if_neg (by omega), closed_f h, Option.bind_some]
    cases hc : closedB l with
    | false => rw [if_neg (by decide), if_neg (by decide)]
    | true =>
      rw [if_pos rfl, if_pos rfl, if_pos (by omega), last_w hpos (by omega), if_pos (by omega), if_pos (by omega)]
      unfold closedB at hc
      rw [Bool.and_eq_true] at hc
      have hn : nx (rd l ((0 : Nat) : Int)) (rd l ((l.length - 1 : Nat) : Int)) = true := hc.2
      have ht := tg_two h (by omega) (by omega) hn
      have hla := len_at h (by omega) (by omega) hn
      rw [show ((0 : Nat) : Int) = 0 from rfl] at hla
      have hu := upto_rd hup (tg l 0 (l.length - 1))
      rw [hla, Option.bind_some, w64 (x := ((tg l 0 (l.length - 1) + 1 : Nat) : Int) - 1) (by omega) (by omega), show ((tg l 0 (l.length - 1) + 1 : Nat) : Int) - 1 = (tg l 0 (l.length - 1) : Int) from by omega, if_pos (by omega), if_pos (by omega), Int.toNat_natCast, w64 (by omega) (by omega)]
      rfl
  | succ d ih =>
    intro i hd h1 hi
    have hil : i < l.length := by omega
    have hnext := ih (i + 1) (by omega) (by omega) (by omega)
    rw [show i + 1 - 1 = (i - 1) + 1 from by omega, chg_succ, show i - 1 + 1 = i from by omega] at hnext
    have hcl := chg_len n l (i - 1)
    have hup := chg_upto n l (i - 1)
    have hn := path_next hp (i := i - 1) (by omega)
    rw [show i - 1 + 1 = i from by omega] at hn
    have ht := tg_two h (by omega) hil hn
    rw [nx_comm] at hn
    have hla := len_at h hil (by omega) hn
    rw [tg_comm] at hla
    have hu := upto_rd hup (tg l (i - 1) i)
    refine Ev.step (f := fun k => flash_Changes.l0 k l (incr (chg n l (i - 1)) (tg l (i - 1) i)) ((i + 1 : Nat) : Int)) (fun k => ?_) hnext
    simp only [flash_Changes.l0]
    rw [if_pos (by omega), if_pos (by omega), w64 (x := (i : Int) - 1) (by omega) (by omega), show (i : Int) - 1 = ((i - 1 : Nat) : Int) from by omega, if_pos (by omega), if_pos (by omega), hla, Option.bind_some,
      w64 (x := ((tg l (i - 1) i + 1 : Nat) : Int) - 1) (by omega) (by omega), show ((tg l (i - 1) i + 1 : Nat) : Int) - 1 = (tg l (i - 1) i : Int) from by omega, if_pos (by omega), if_pos (by omega), Int.toNat_natCast,
      w64 (x := rd (chg n l (i - 1)) (tg l (i - 1) i : Int) + 1) (by omega) (by omega), w64 (x := (i : Int) + 1) (by omega) (by omega)]
    rfl
def changesR (n : Int) (l : List Int) : List Int × Int := if listedN n l = 0 then (if pathB l = true then (changesL n.toNat l, 0) else ([], 5)) else ([], listedN n l)
theorem changes_ev (n : Int) (l : List Int) : Ev (fun k => flash_Changes.f k n l) (changesR n l) := by
  unfold changesR
  by_cases hz : listedN n l = 0
  · obtain ⟨m, rfl, hf⟩ := listedN_fine hz
    have hn2 := hf.n2
    rw [if_pos hz, Int.toNat_natCast]
    refine Ev.congr (f := fun k => if pathB l = true then flash_Changes.l0 k l (chg m l 0) ((1 : Nat) : Int) else some (([] : List Int), 5)) (fun k => ?_) ?_
    · show flash_Changes.f k _ _ = _
      unfold flash_Changes.f
      rw [listed_f, Option.bind_some, if_pos hz]
      unfold flash_path.f
      have e1 : (0 : Int) ≤ (m : Int) := by omega
      have e2 : m ≤ 35184372088832 := by omega
      rw [if_pos hf.small, Option.bind_some, Int.toNat_natCast, if_pos e1, if_pos e2]
      rfl
    · cases hp : pathB l with
      | false => exact Ev.neg (by decide) (by simpa using Ev.now _)
      | true => exact Ev.pos rfl (by rw [if_pos rfl]; exact chg_l0 hf hp (l.length - 1) 1 (by omega) (by omega) (by have := hf.pos; omega))
  · rw [if_neg hz]
    refine Ev.at 0 (fun k _ => ?_)
    unfold flash_Changes.f
    rw [listed_f, Option.bind_some, if_neg hz]
end Go.Proofs.Ytnakkdaeehglnaa.P
