/- Several texts of this session in one file, in build order: FGrow. -/
import Derived.Test.YtnakkdaeehglnaaJFlashSnakes1
set_option linter.unusedSimpArgs false
set_option linter.unusedVariables false
namespace Go.Proofs.Ytnakkdaeehglnaa.P
open Go.Lib Go.RowKit Go.Proofs.YtnakkdaeehglnaaW.PrintWords Go.Proofs.YtnakkdaeehglnaaW.PrintMore Go.Proofs.Ytnakkdaeehglnaa.Kit

theorem one_two_all : ((List.range 64).all fun a => (List.range 64).all fun b => ((List.range 12).any fun t => 2 ^ t == 64 * a + b) == oneN (64 * a + b)) = true := by decide +kernel
theorem one_two {x : Nat} (h : x < 4096) : oneN x = true ↔ ∃ t, t < 12 ∧ x = 2 ^ t := by
  have h1 := one_two_all
  rw [List.all_eq_true] at h1
  have h2 := h1 (x / 64) (List.mem_range.2 (by omega))
  rw [List.all_eq_true] at h2
  have h3 := h2 (x % 64) (List.mem_range.2 (by omega))
  rw [show 64 * (x / 64) + x % 64 = x from by omega] at h3
  rw [← beq_iff_eq.1 h3, List.any_eq_true]
  constructor
  · rintro ⟨t, ht, e⟩
    exact ⟨t, List.mem_range.1 ht, (beq_iff_eq.1 e).symm⟩
  · rintro ⟨t, ht, e⟩
    exact ⟨t, List.mem_range.2 ht, beq_iff_eq.2 e.symm⟩
/-- Two lists that ascend and have the same members are one. -/
theorem asc_uniq : ∀ {a b : List Int}, a.Pairwise (· < ·) → b.Pairwise (· < ·) → (∀ x, x ∈ a ↔ x ∈ b) → a = b := by
  intro a
  induction a with
  | nil =>
    intro b _ _ h
    cases b with
    | nil => rfl
    | cons y ys => exact absurd ((h y).2 List.mem_cons_self) (by simp)
  | cons x xs ih =>
    intro b ha hb h
    cases b with
    | nil => exact absurd ((h x).1 List.mem_cons_self) (by simp)
    | cons y ys =>
      rw [List.pairwise_cons] at ha hb
      have hxy : x = y := by
        rcases List.mem_cons.1 ((h x).1 List.mem_cons_self) with e | e
        · exact e
        · rcases List.mem_cons.1 ((h y).2 List.mem_cons_self) with e2 | e2
          · exact e2.symm
          · have := hb.1 x e
            have := ha.1 y e2
            omega
      subst hxy
      rw [ih ha.2 hb.2 (fun z => ?_)]
      constructor
      · intro hz
        rcases List.mem_cons.1 ((h z).1 (List.mem_cons_of_mem _ hz)) with e | e
        · have := ha.1 z hz; omega
        · exact e
      · intro hz
        rcases List.mem_cons.1 ((h z).2 (List.mem_cons_of_mem _ hz)) with e | e
        · have := hb.1 z hz; omega
        · exact e
theorem isort_asc {l : List Int} (h : l.Nodup) : (isort l).Pairwise (· < ·) := by
  have h1 := isort_sorted l
  have h2 : (isort l).Nodup := (isort_perm l).nodup_iff.2 h
  exact (h1.and h2).imp (fun h => by have := h.1; have := h.2; omega)
/-- What may come next. -/
def freeB (l : List Int) (x : Int) : Bool := okFrom (fun i => decide (x ≠ rd l (i : Int)) && !nx x (rd l (i : Int))) (l.length - 1) 0
def growL (n : Nat) (l : List Int) : List Int := (ups' (2 ^ n)).filter fun x => nx x (lastI l) && freeB l x
where ups' (m : Nat) : List Int := (List.range m).map fun (t : Nat) => (t : Int)
theorem ups'_succ (m : Nat) : growL.ups' (m + 1) = growL.ups' m ++ [(m : Int)] := by
  unfold growL.ups'
  rw [List.range_succ, List.map_append]
  rfl
theorem ups'_asc (m : Nat) : (growL.ups' m).Pairwise (· < ·) := by
  unfold growL.ups'
  rw [List.pairwise_map]
  exact List.pairwise_lt_range.imp (fun h => by omega)
theorem flip_nodup (s : Int) (n : Nat) : ((List.range n).map (flip s)).Nodup := by
  unfold List.Nodup
  rw [List.pairwise_map]
  refine List.pairwise_lt_range.imp (fun {a b} h e => ?_)
  unfold flip at e
  have e1 : s.toNat ^^^ 2 ^ a = s.toNat ^^^ 2 ^ b := by omega
  have e2 : 2 ^ a = 2 ^ b := by
    have h3 : s.toNat ^^^ (s.toNat ^^^ 2 ^ a) = s.toNat ^^^ (s.toNat ^^^ 2 ^ b) := by rw [e1]
    rw [← Nat.xor_assoc, ← Nat.xor_assoc, Nat.xor_self, Nat.zero_xor, Nat.zero_xor] at h3
    exact h3
  have := Nat.pow_lt_pow_right (a := 2) (by decide) h
  omega
theorem last_rd (l : List Int) (h : 0 < l.length) : lastI l = rd l ((l.length - 1 : Nat) : Int) := by
  unfold lastI
  rw [show (l.length : Int) - 1 = ((l.length - 1 : Nat) : Int) from by omega]
theorem free_any {n : Nat} {l : List Int} (h : Fine n l) (x : Int) : (!(l.take (l.length - 1)).any (nearB x)) = freeB l x := by
  unfold freeB
  rw [Bool.eq_iff_iff, okFrom_iff, Bool.not_eq_true', Bool.eq_false_iff]
  constructor
  · intro h1 i _ hi
    rw [Bool.and_eq_true]
    have hin : rd l (i : Int) ∈ l.take (l.length - 1) := by
      rw [List.mem_take_iff_getElem]
      exact ⟨i, by omega, (rd_get l i (by omega)).symm⟩
    have h2 : nearB x (rd l (i : Int)) = false := by
      rw [Bool.eq_false_iff]
      intro h3
      exact h1 (List.any_eq_true.2 ⟨_, hin, h3⟩)
    unfold nearB at h2
    rw [Bool.or_eq_false_iff] at h2
    refine ⟨decide_eq_true (fun e => ?_), ?_⟩
    · rw [← e] at h2
      simp at h2
    · rw [nx_comm, h2.2]; rfl
  · intro h1 h2
    obtain ⟨y, hy, h3⟩ := List.any_eq_true.1 h2
    obtain ⟨i, hi, e⟩ := List.mem_take_iff_getElem.1 hy
    have h4 := h1 i (by omega) (by omega)
    rw [rd_get l i (by omega), e, Bool.and_eq_true] at h4
    unfold nearB at h3
    rw [Bool.or_eq_true] at h3
    rcases h3 with h3 | h3
    · exact of_decide_eq_true h4.1 (beq_iff_eq.1 h3).symm
    · rw [nx_comm, h3] at h4
      simp at h4
theorem grown_eq {n : Nat} {l : List Int} (h : Fine n l) : isort (addable l n) = growL n l := by
  have hp := h.pos
  have hlast := h.rd (l.length - 1) (by omega)
  rw [← last_rd l hp] at hlast
  have hln : lastI l < ((2 ^ n : Nat) : Int) := by
    rw [last_rd l hp, rd_get l _ (by omega)]
    exact (h.all _ (List.getElem_mem _)).2
  have h12 := pow12' h.n2
  refine asc_uniq (isort_asc ?_) ?_ (fun x => ?_)
  · unfold addable
    exact List.Nodup.sublist (List.filter_sublist) (flip_nodup _ _)
  · unfold growL
    exact List.Pairwise.sublist List.filter_sublist (ups'_asc _)
  · rw [mem_isort]
    unfold addable growL growL.ups'
    rw [List.mem_filter, List.mem_filter, List.mem_map, List.mem_map, free_any h, Bool.and_eq_true]
    constructor
    · rintro ⟨⟨t, ht, rfl⟩, hf⟩
      have ht := List.mem_range.1 ht
      have hpt : 2 ^ t < 2 ^ n := Nat.pow_lt_pow_right (by decide) ht
      have hx : (lastI l).toNat ^^^ 2 ^ t < 2 ^ n := Nat.xor_lt_two_pow (by omega) hpt
      refine ⟨⟨(lastI l).toNat ^^^ 2 ^ t, List.mem_range.2 hx, rfl⟩, ?_, hf⟩
      unfold flip
      rw [nx_one (by omega) hlast, Int.toNat_natCast, Nat.xor_comm, ← Nat.xor_assoc, Nat.xor_self, Nat.zero_xor]
      exact one_pow t
    · rintro ⟨⟨m, hm, rfl⟩, hn, hf⟩
      have hm := List.mem_range.1 hm
      rw [nx_one (by omega) hlast, Int.toNat_natCast] at hn
      have hx : m ^^^ (lastI l).toNat < 2 ^ n := Nat.xor_lt_two_pow hm (by omega)
      obtain ⟨t, ht, e⟩ := (one_two (by omega)).1 hn
      have htn : t < n := by
        rcases Nat.lt_or_ge t n with h1 | h1
        · exact h1
        · have := Nat.pow_le_pow_right (n := 2) (by decide) h1
          omega
      refine ⟨⟨t, List.mem_range.2 htn, ?_⟩, hf⟩
      unfold flip
      rw [← e, Nat.xor_comm m, ← Nat.xor_assoc, Nat.xor_self, Nat.zero_xor]
theorem rgrow_l1 {n : Nat} {l : List Int} (h : Fine n l) (x : Nat) (hx : x < 2 ^ n) (out : List Int) (r : List Int × Int) (ho : out.length ≤ 4096) :
    ∀ d i ok, (l.length - 1) - i = d → i ≤ l.length - 1 →
    Ev (fun k => neonwrightref04_Grow.l0 k (n : Int) l (if (ok && okFrom (fun i => decide ((x : Int) ≠ rd l (i : Int)) && !nx (x : Int) (rd l (i : Int))) d i) = true then out ++ [(x : Int)] else out) ((x + 1 : Nat) : Int)) r →
    Ev (fun k => neonwrightref04_Grow.l1 k (n : Int) l out (x : Int) ok (i : Int)) r := by
  have hl := h.le
  have hp := h.pos
  have h12 := pow12' h.n2
  have hw : wrap64 ((x : Int) + 1) = ((x + 1 : Nat) : Int) := by rw [w64 (by omega) (by omega)]; rfl
  intro d
  induction d with
  | zero =>
    intro i ok hd hi hR
    rw [show okFrom _ 0 i = true from rfl, Bool.and_true] at hR
    refine Ev.step (f := fun k => neonwrightref04_Grow.l0 k (n : Int) l (if ok = true then out ++ [(x : Int)] else out) ((x + 1 : Nat) : Int)) (fun k => ?_) hR
    simp only [neonwrightref04_Grow.l1]
    rw [last_w hp (by omega), if_neg (by omega), hw]
    cases ok with
    | true => rw [if_pos rfl, if_pos (by omega), if_pos rfl]
    | false => rw [if_neg (by decide), if_neg (by decide)]
  | succ d ih =>
    intro i ok hd hi hR
    have hi1 : wrap64 ((i : Int) + 1) = ((i + 1 : Nat) : Int) := by rw [w64 (by omega) (by omega)]; rfl
    cases ok with
    | false =>
      rw [Bool.false_and, if_neg (by decide)] at hR
      refine Ev.step (f := fun k => neonwrightref04_Grow.l0 k (n : Int) l out ((x + 1 : Nat) : Int)) (fun k => ?_) hR
      simp only [neonwrightref04_Grow.l1]
      rw [last_w hp (by omega), if_pos (by omega), if_neg (by decide), hw]
    | true =>
      unfold okFrom at hR
      have hi2 : i < l.length := by omega
      rw [Bool.true_and] at hR
      have h1 := ih (i + 1) (decide ((x : Int) ≠ rd l (i : Int)) && !nx (x : Int) (rd l (i : Int))) (by omega) (by omega) hR
      refine Ev.step (f := fun k => neonwrightref04_Grow.l1 k (n : Int) l out (x : Int) (decide ((x : Int) ≠ rd l (i : Int)) && !nx (x : Int) (rd l (i : Int))) ((i + 1 : Nat) : Int)) (fun k => ?_) h1
      simp only [neonwrightref04_Grow.l1]
      rw [last_w hp (by omega), if_pos (by omega), if_pos (by trivial), if_pos (by omega), if_pos (by omega), hi1]
      by_cases c : (x : Int) = rd l (i : Int)
      · rw [if_pos c, decide_eq_false (fun hne => hne c), Bool.false_and]
      · rw [if_neg c, near_nx (by omega) (h.rd i hi2), Option.bind_some, decide_eq_true c, Bool.true_and]
theorem rgrow_l0 {n : Nat} {l : List Int} (h : Fine n l) : ∀ d x, 2 ^ n - x = d → x ≤ 2 ^ n →
    Ev (fun k => neonwrightref04_Grow.l0 k (n : Int) l ((growL.ups' x).filter fun x => nx x (lastI l) && freeB l x) (x : Int)) (growL n l, 0) := by
  have hl := h.le
  have hp := h.pos
  have h12 := pow12' h.n2
  have hn2 := h.n2
  intro d
  induction d with
  | zero =>
    intro x hd hx
    obtain rfl : x = 2 ^ n := by omega
    refine Ev.step (f := fun _ => some (growL n l, 0)) (fun k => ?_) (Ev.now _)
    simp only [neonwrightref04_Grow.l0]
    rw [if_pos (by omega), shl1n (by omega), if_neg (by omega)]
    rfl
  | succ d ih =>
    intro x hd hx
    have hxl : x < 2 ^ n := by omega
    have hlen : ((growL.ups' x).filter fun x => nx x (lastI l) && freeB l x).length ≤ 4096 := by
      refine Nat.le_trans (List.length_filter_le _ _) ?_
      unfold growL.ups'
      rw [List.length_map, List.length_range]
      omega
    have hnext := ih (x + 1) (by omega) (by omega)
    rw [ups'_succ, List.filter_append] at hnext
    generalize ((growL.ups' x).filter fun x => nx x (lastI l) && freeB l x) = out at hlen hnext
    have hl1 : nx (x : Int) (rd l ((l.length - 1 : Nat) : Int)) = nx (x : Int) (lastI l) := by rw [last_rd l hp]
    have h1 : Ev (fun k => neonwrightref04_Grow.l1 k (n : Int) l out (x : Int) (nx (x : Int) (lastI l)) ((0 : Nat) : Int)) (growL n l, 0) := by
      have hfr : (nx (x : Int) (lastI l) && okFrom (fun i => decide ((x : Int) ≠ rd l (i : Int)) && !nx (x : Int) (rd l (i : Int))) (l.length - 1) 0) = (nx (x : Int) (lastI l) && freeB l (x : Int)) := rfl
      have hout : (if (nx (x : Int) (lastI l) && freeB l (x : Int)) = true then out ++ [(x : Int)] else out) = out ++ List.filter (fun x => nx x (lastI l) && freeB l x) [(x : Int)] := by
        cases hb : (nx (x : Int) (lastI l) && freeB l (x : Int)) <;> simp [List.filter_cons, hb]
      rw [← hout] at hnext
      have h3 := rgrow_l1 h x hxl out (growL n l, 0) hlen (l.length - 1) 0 (nx (x : Int) (lastI l)) (by omega) (by omega) (by rw [hfr]; exact hnext)
      exact h3
    refine Ev.step (f := fun k => neonwrightref04_Grow.l1 k (n : Int) l out (x : Int) (nx (x : Int) (lastI l)) ((0 : Nat) : Int)) (fun k => ?_) h1
    simp only [neonwrightref04_Grow.l0]
    rw [if_pos (by omega), shl1n (by omega), if_pos (by omega), last_w hp (by omega), if_pos (by omega), if_pos (by omega), near_nx (by omega) (h.rd (l.length - 1) (by omega)), Option.bind_some, hl1]
    rfl
def growR (n : Int) (l : List Int) : List Int × Int := if listedN n l = 0 then (if (pathB l && snakeB l false) = true then (growL n.toNat l, 0) else ([], 5)) else ([], listedN n l)
theorem grow_ev (n : Int) (l : List Int) : Ev (fun k => flash_Grow.f k n l) (growR n l) := by
  unfold growR
  by_cases hz : listedN n l = 0
  · obtain ⟨m, rfl, hf⟩ := listedN_fine hz
    rw [if_pos hz, Int.toNat_natCast]
    refine Ev.congr (f := fun k => if pathB l = true then ((flash_snake.f k l false).bind fun t257 => (if t257 = true then some (growL m l, 0) else (some (([] : List Int), 5)))) else (some (([] : List Int), 5))) (fun k => ?_) ?_
    · show flash_Grow.f k _ _ = _
      unfold flash_Grow.f
      rw [listed_f, Option.bind_some, if_pos hz]
      unfold flash_path.f
      rw [if_pos hf.small, Option.bind_some]
      congr 1
      congr 1
      funext t
      congr 1
      unfold flash_grown.f
      have := hf.n1; have := hf.n2; have := hf.pos
      rw [if_pos ⟨⟨by omega, by omega, hf.pos⟩, hf.small⟩, Int.toNat_natCast, grown_eq hf]
      rfl
    · cases hp : pathB l with
      | false => exact Ev.neg (by decide) (by simpa using Ev.now _)
      | true =>
        refine Ev.pos rfl (Ev.bnd (snake_ev hf false) ?_)
        cases snakeB l false with
        | true => exact Ev.pos rfl (by simpa using Ev.now _)
        | false => exact Ev.neg (by decide) (by simpa using Ev.now _)
  · rw [if_neg hz]
    refine Ev.at 0 (fun k _ => ?_)
    unfold flash_Grow.f
    rw [listed_f, Option.bind_some, if_neg hz]
theorem rgrow_ev (n : Int) (l : List Int) : Ev (fun k => neonwrightref04_Grow.f k n l) (growR n l) := by
  unfold growR
  refine Ev.congr (f := fun k => (neonwrightref04_States.f k n l).bind fun t261 => (if t261 = 0 then ((neonwrightref04_snake.f k l).bind fun bt262 => (if bt262.1 = true then (neonwrightref04_Grow.l0 k n l ([] : List Int) ((0 : Nat) : Int)) else (some (([] : List Int), 5)))) else (some (([] : List Int), t261)))) (fun k => rfl) (Ev.bnd (states_ev n l) ?_)
  by_cases hz : listedN n l = 0
  · obtain ⟨m, rfl, hf⟩ := listedN_fine hz
    rw [if_pos hz, Int.toNat_natCast]
    refine Ev.pos hz (Ev.bnd (rsnake_ev hf) ?_)
    have h0 := rgrow_l0 hf (2 ^ m) 0 (Nat.sub_zero _) (Nat.zero_le _)
    cases hb : (pathB l && snakeB l false) with
    | true => exact Ev.pos rfl (by rw [if_pos rfl]; exact h0)
    | false => exact Ev.neg (by simp) (by rw [if_neg (by decide)]; exact Ev.now _)
  · rw [if_neg hz]
    exact Ev.neg hz (Ev.now _)
theorem growR_len (n : Int) (l : List Int) : (growR n l).1.length ≤ 4096 := by
  unfold growR
  split
  · rename_i hz
    obtain ⟨m, rfl, hf⟩ := listedN_fine hz
    split
    · unfold growL growL.ups'
      refine Nat.le_trans (List.length_filter_le _ _) ?_
      rw [List.length_map, List.length_range, Int.toNat_natCast]
      exact pow12' hf.n2
    · exact Nat.zero_le _
  · exact Nat.zero_le _
end Go.Proofs.Ytnakkdaeehglnaa.P
