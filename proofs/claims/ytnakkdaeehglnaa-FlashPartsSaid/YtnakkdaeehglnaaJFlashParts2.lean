/- Several texts of this session in one file, in build order: NormP, RotN, FRef, ChgN, FPar, FMoved, Pf29, Pf30, FGrow, FMax. -/
import Derived.Test.YtnakkdaeehglnaaJB2
import Derived.Test.YtnakkdaeehglnaaJFlashParts1
import Derived.Test.YtnakkdaeehglnaaJB1
set_option linter.unusedSimpArgs false
set_option linter.unusedVariables false
namespace Go.Proofs.Ytnakkdaeehglnaa.P
open Go.Lib Go.RowKit Go.Proofs.YtnakkdaeehglnaaW.PrintWords Go.Proofs.YtnakkdaeehglnaaW.PrintMore Go.Proofs.Ytnakkdaeehglnaa.Kit

theorem litB_bit (x t : Int) : litB x t = x.toNat.testBit t.toNat := by
  unfold litB
  cases h : x.toNat.testBit t.toNat with
  | false =>
    have : x.toNat &&& 2 ^ t.toNat = 0 := Nat.eq_of_testBit_eq (fun j => by
      rw [Nat.testBit_and, Nat.testBit_two_pow, Nat.zero_testBit]
      by_cases e : t.toNat = j
      · subst e; rw [h]; rfl
      · simp [e])
    rw [this]; rfl
  | true =>
    have h2 : (x.toNat &&& 2 ^ t.toNat).testBit t.toNat = true := by rw [Nat.testBit_and, h, Nat.testBit_two_pow]; simp
    rw [bne_iff_ne]
    intro e
    rw [e] at h2
    simp at h2
/-- The number with these bits. -/
def valOf : List Bool → Nat
  | [] => 0
  | b :: bs => b.toNat + 2 * valOf bs
theorem val_bit : ∀ (bs : List Bool) (j : Nat), (valOf bs).testBit j = bs.getD j false := by
  intro bs
  induction bs with
  | nil => intro j; simp [valOf]
  | cons b bs ih =>
    intro j
    unfold valOf
    cases j with
    | zero => cases b <;> simp [Nat.testBit_zero]
    | succ j =>
      rw [Nat.testBit_succ, show (b.toNat + 2 * valOf bs) / 2 = valOf bs from by cases b <;> simp <;> omega, ih]
      rfl
theorem ups_mem {n : Nat} {t : Int} : t ∈ ups n ↔ 0 ≤ t ∧ t < n := by
  unfold ups
  rw [List.mem_map]
  constructor
  · rintro ⟨m, hm, rfl⟩
    have := List.mem_range.1 hm
    omega
  · rintro ⟨h0, h1⟩
    exact ⟨t.toNat, List.mem_range.2 (by omega), by omega⟩
theorem ups_nodup (n : Nat) : (ups n).Nodup := by
  unfold ups List.Nodup
  rw [List.pairwise_map]
  exact List.pairwise_lt_range.imp (fun h => by omega)
theorem rd_set (l : List Int) (u : Nat) (v : Int) (t : Int) (hu : u < l.length) (ht : 0 ≤ t) : rd (l.set u v) t = if t.toNat = u then v else rd l t := by
  unfold rd
  rw [List.getD_eq_getElem?_getD, List.getD_eq_getElem?_getD, List.getElem?_set]
  by_cases h : u = t.toNat
  · subst h; simp [hu]
  · rw [if_neg h, if_neg (fun e => h e.symm)]
theorem toAt_inv {n : Nat} {order : List Int} (h : order.Perm (ups n)) : ∀ i, i ≤ n → ∀ k, (hk : k < i) → rd (toAt n order i) (rd order (k : Int)) = k := by
  have hl : order.length = n := h.length_eq.trans (ups_len n)
  have hnd : order.Nodup := h.nodup_iff.2 (ups_nodup n)
  have hr : ∀ k, k < n → 0 ≤ rd order (k : Int) ∧ rd order (k : Int) < n := fun k hk => by
    rw [rd_get order k (by omega)]
    exact ups_mem.1 (h.mem_iff.1 (List.getElem_mem _))
  intro i
  induction i with
  | zero => intro _ k hk; omega
  | succ i ih =>
    intro hi k hk
    have r1 := hr i (by omega)
    have r2 := hr k (by omega)
    rw [toAt_succ, rd_set _ _ _ _ (by rw [toAt_len]; omega) r2.1]
    by_cases e : k = i
    · subst e; rw [if_pos rfl]
    · rw [if_neg, ih (by omega) k (by omega)]
      intro e2
      have e3 : rd order (k : Int) = rd order (i : Int) := by omega
      rw [rd_get order k (by omega), rd_get order i (by omega)] at e3
      exact e ((List.getElem_inj hnd).1 e3)
theorem outX_bit (tb : List Int) (x : Nat) (j : Nat) : ∀ t, (outX tb x t).testBit j = true ↔ ∃ t', t' < t ∧ (rd tb (t' : Int)).toNat = j ∧ x.testBit t' = true := by
  intro t
  induction t with
  | zero => unfold outX; simp
  | succ t ih =>
    rw [outX_succ, Nat.testBit_or, Bool.or_eq_true, ih]
    have hs : ((x >>> t &&& 1) <<< (rd tb (t : Int)).toNat).testBit j = true ↔ (rd tb (t : Int)).toNat = j ∧ x.testBit t = true := by
      have hb : x >>> t &&& 1 = (x.testBit t).toNat := by
        rw [Nat.and_one_is_mod, Nat.testBit_eq_decide_div_mod_eq, Nat.shiftRight_eq_div_pow]
        have := Nat.mod_two_eq_zero_or_one (x / 2 ^ t)
        rcases this with h | h <;> rw [h] <;> rfl
      rw [hb, Nat.testBit_shiftLeft]
      cases hx : x.testBit t with
      | false => simp
      | true =>
        simp only [Bool.toNat_true, Bool.and_eq_true, decide_eq_true_eq, and_true]
        constructor
        · rintro ⟨h1, h2⟩
          rw [Nat.testBit_one_eq_true_iff_self_eq_zero] at h2
          omega
        · intro h; subst h; simp
    rw [hs]
    constructor
    · rintro (⟨t', h1, h2⟩ | h)
      · exact ⟨t', by omega, h2⟩
      · exact ⟨t, by omega, h⟩
    · rintro ⟨t', h1, h2⟩
      by_cases e : t' = t
      · subst e; exact Or.inr h2
      · exact Or.inl ⟨t', by omega, h2⟩
theorem outX_val {n : Nat} {order : List Int} (hn : 0 < n) (h : order.Perm (ups n)) (x : Nat) : outX (toAt n order n) x n = valOf (order.map fun t => x.testBit t.toNat) := by
  have hl : order.length = n := h.length_eq.trans (ups_len n)
  have hr : ∀ k, k < n → 0 ≤ rd order (k : Int) ∧ rd order (k : Int) < n := fun k hk => by
    rw [rd_get order k (by omega)]
    exact ups_mem.1 (h.mem_iff.1 (List.getElem_mem _))
  apply Nat.eq_of_testBit_eq
  intro j
  rw [Bool.eq_iff_iff, outX_bit, val_bit]
  constructor
  · rintro ⟨t, h1, h2, h3⟩
    obtain ⟨k, hk, e⟩ := List.getElem_of_mem (h.mem_iff.2 (ups_mem.2 ⟨(by omega : (0 : Int) ≤ (t : Int)), (by omega : (t : Int) < (n : Int))⟩))
    have := toAt_inv h n (Nat.le_refl _) k (by omega)
    rw [rd_get order k (by omega), e] at this
    rw [this] at h2
    obtain rfl : k = j := by omega
    simp [hk, e, h3]
  · intro h1
    by_cases hj : j < n
    · have := toAt_inv h n (Nat.le_refl _) j hj
      have r := hr j hj
      refine ⟨(rd order (j : Int)).toNat, by omega, ?_, ?_⟩
      · rw [show (((rd order (j : Int)).toNat : Nat) : Int) = rd order (j : Int) from by omega, this]; omega
      · rw [rd_get order j (by omega)]
        simpa [hl, hj] using h1
    · simp [hl, hj] at h1
/-- Two lists of groups, the second one's tubes being renamed. -/
def Rel (p : Int → Int) : List (List Int) → List (List Int) → Prop
  | [], [] => True
  | g :: gs, g' :: gs' => g'.Perm (g.map p) ∧ Rel p gs gs'
  | _, _ => False
theorem Rel.app {p : Int → Int} : ∀ {a a' b b' : List (List Int)}, Rel p a a' → Rel p b b' → Rel p (a ++ b) (a' ++ b') := by
  intro a
  induction a with
  | nil => intro a' b b' h1 h2; cases a' with
    | nil => exact h2
    | cons _ _ => exact h1.elim
  | cons g gs ih => intro a' b b' h1 h2; cases a' with
    | nil => exact h1.elim
    | cons g' gs' => exact ⟨h1.1, ih h1.2 h2⟩
theorem perm_filter_map {p : Int → Int} {q q' : Int → Bool} {g g' : List Int} (h : g'.Perm (g.map p)) (hb : ∀ t, t ∈ g → q' (p t) = q t) : (g'.filter q').Perm ((g.filter q).map p) := by
  refine (h.filter q').trans ?_
  rw [List.filter_map]
  rw [show g.filter (q' ∘ p) = g.filter q from List.filter_congr (fun t ht => hb t ht)]
theorem halves_rel {p : Int → Int} {x x' : Int} {g g' : List Int} (h : g'.Perm (g.map p)) (hb : ∀ t, t ∈ g → litB x' (p t) = litB x t) : Rel p (halves x g) (halves x' g') := by
  have h1 := perm_filter_map h hb
  have h2 := perm_filter_map (q := fun t => !litB x t) (q' := fun t => !litB x' t) h (fun t ht => by rw [hb t ht])
  have l1 := h1.length_eq
  have l2 := h2.length_eq
  rw [List.length_map] at l1 l2
  unfold halves
  rw [List.filter_cons, List.filter_cons, List.filter_cons, List.filter_cons, l1, l2]
  by_cases e1 : 0 < (g.filter (litB x)).length <;> by_cases e2 : 0 < (g.filter (fun t => !litB x t)).length <;> simp only [e1, e2, decide_true, decide_false, if_true, List.filter_nil, Bool.false_eq_true, if_false] <;> simp only [Rel, h1, h2, and_self]
theorem refine_rel {p : Int → Int} {x x' : Int} : ∀ {gs gs' : List (List Int)}, Rel p gs gs' → (∀ g, g ∈ gs → ∀ t, t ∈ g → litB x' (p t) = litB x t) → Rel p (refine1 x gs) (refine1 x' gs') := by
  intro gs
  induction gs with
  | nil => intro gs' h _; cases gs' with
    | nil => exact trivial
    | cons _ _ => exact h.elim
  | cons g gs ih => intro gs' h hb; cases gs' with
    | nil => exact h.elim
    | cons g' gs' =>
      unfold refine1
      rw [List.flatMap_cons, List.flatMap_cons]
      exact (halves_rel h.1 (hb g List.mem_cons_self)).app (ih h.2 (fun g'' hg => hb g'' (List.mem_cons_of_mem _ hg)))
/-- All tubes of a group have the same bit. -/
def Const (x : Int) (gs : List (List Int)) : Prop := ∀ g, g ∈ gs → ∀ s, s ∈ g → ∀ t, t ∈ g → litB x s = litB x t
theorem halves_mem {x : Int} {g h : List Int} (hh : h ∈ halves x g) : (∀ t, t ∈ h → t ∈ g) ∧ ∀ s, s ∈ h → ∀ t, t ∈ h → litB x s = litB x t := by
  unfold halves at hh
  have h1 := (List.mem_filter.1 hh).1
  rcases List.mem_cons.1 h1 with rfl | h1
  · exact ⟨fun t ht => (List.mem_filter.1 ht).1, fun s hs t ht => by rw [(List.mem_filter.1 hs).2, (List.mem_filter.1 ht).2]⟩
  · rw [List.mem_singleton] at h1
    subst h1
    refine ⟨fun t ht => (List.mem_filter.1 ht).1, fun s hs t ht => ?_⟩
    have a := (List.mem_filter.1 hs).2
    have b := (List.mem_filter.1 ht).2
    rw [Bool.not_eq_true'] at a b
    rw [a, b]
theorem const_new (x : Int) (gs : List (List Int)) : Const x (refine1 x gs) := by
  intro h hh
  obtain ⟨g, _, hg⟩ := List.mem_flatMap.1 hh
  exact (halves_mem hg).2
theorem Const.step {x : Int} {gs : List (List Int)} (h : Const x gs) (y : Int) : Const x (refine1 y gs) := by
  intro k hk s hs t ht
  obtain ⟨g, hg, hk2⟩ := List.mem_flatMap.1 hk
  have := (halves_mem hk2).1
  exact h g hg s (this s hs) t (this t ht)
theorem map_const {α : Type} (f g : Int → α) : ∀ (a b : List Int), a.length = b.length → (∀ s, s ∈ a → ∀ t, t ∈ b → f s = g t) → a.map f = b.map g := by
  intro a
  induction a with
  | nil => intro b hl _; cases b with
    | nil => rfl
    | cons _ _ => simp at hl
  | cons x xs ih => intro b hl h; cases b with
    | nil => simp at hl
    | cons y ys =>
      rw [List.map_cons, List.map_cons, h x List.mem_cons_self y List.mem_cons_self, ih ys (by simpa using hl) (fun s hs t ht => h s (List.mem_cons_of_mem _ hs) t (List.mem_cons_of_mem _ ht))]
theorem const_row {x : Int} {gs : List (List Int)} (h : Const x gs) (y : Int) : (refine1 y gs).flatten.map (litB x) = gs.flatten.map (litB x) := by
  induction gs with
  | nil => rfl
  | cons g gs ih =>
    unfold refine1 at *
    rw [List.flatMap_cons, List.flatten_append, List.flatten_cons, List.map_append, List.map_append, ih (fun g' hg => h g' (List.mem_cons_of_mem _ hg))]
    congr 1
    have hp := halves_perm y g
    exact map_const _ _ _ _ hp.length_eq (fun s hs t ht => h g List.mem_cons_self s (hp.mem_iff.1 hs) t ht)
theorem rel_row {p : Int → Int} {x x' : Int} : ∀ {gs gs' : List (List Int)}, Rel p gs gs' → Const x gs → (∀ g, g ∈ gs → ∀ t, t ∈ g → litB x' (p t) = litB x t) → gs'.flatten.map (litB x') = gs.flatten.map (litB x) := by
  intro gs
  induction gs with
  | nil => intro gs' h _ _; cases gs' with
    | nil => rfl
    | cons _ _ => exact h.elim
  | cons g gs ih => intro gs' h hc hb; cases gs' with
    | nil => exact h.elim
    | cons g' gs' =>
      rw [List.flatten_cons, List.flatten_cons, List.map_append, List.map_append, ih h.2 (fun g'' hg => hc g'' (List.mem_cons_of_mem _ hg)) (fun g'' hg => hb g'' (List.mem_cons_of_mem _ hg))]
      congr 1
      refine map_const _ _ _ _ (by rw [h.1.length_eq, List.length_map]) (fun s hs t ht => ?_)
      obtain ⟨s', hs', rfl⟩ := List.mem_map.1 (h.1.mem_iff.1 hs)
      rw [hb g List.mem_cons_self s' hs', hc g List.mem_cons_self s' hs' t ht]
/-- The groups behind some differences. -/
def grp (xs : List Int) (gs : List (List Int)) : List (List Int) := xs.foldl (fun gs x => refine1 x gs) gs
theorem groupsF_grp (n : Nat) (z : Int) (l : List Int) : groupsF n z l = grp (l.map (xr · z)) [ups n] := by
  unfold groupsF grp
  rw [List.foldl_map]
theorem grp_const_keep {x : Int} : ∀ (xs : List Int) {gs : List (List Int)}, Const x gs → Const x (grp xs gs) := by
  intro xs
  induction xs with
  | nil => intro gs h; exact h
  | cons y xs ih => intro gs h; exact ih (h.step y)
theorem grp_const {x : Int} : ∀ (xs : List Int) (gs : List (List Int)), x ∈ xs → Const x (grp xs gs) := by
  intro xs
  induction xs with
  | nil => intro gs h; cases h
  | cons y xs ih =>
    intro gs h
    rcases List.mem_cons.1 h with rfl | h
    · exact grp_const_keep xs (const_new x gs)
    · exact ih _ h
theorem grp_row {x : Int} : ∀ (xs : List Int) {gs : List (List Int)}, Const x gs → (grp xs gs).flatten.map (litB x) = gs.flatten.map (litB x) := by
  intro xs
  induction xs with
  | nil => intro gs _; rfl
  | cons y xs ih => intro gs h; exact (ih (h.step y)).trans (const_row h y)
theorem grp_good {n : Nat} : ∀ (xs : List Int) {gs : List (List Int)}, Good n gs → Good n (grp xs gs) := by
  intro xs
  induction xs with
  | nil => intro gs h; exact h
  | cons y xs ih => intro gs h; exact ih (h.step y)
theorem grp_rel {p : Int → Int} {n : Nat} : ∀ (xs xs' : List Int) {gs gs' : List (List Int)}, xs.length = xs'.length → Rel p gs gs' → Good n gs →
    (∀ i, (h : i < xs.length) → ∀ t, t ∈ ups n → litB (rd xs' (i : Int)) (p t) = litB xs[i] t) → Rel p (grp xs gs) (grp xs' gs') := by
  intro xs
  induction xs with
  | nil => intro xs' gs gs' hl h _ _; cases xs' with
    | nil => exact h
    | cons _ _ => simp at hl
  | cons x xs ih => intro xs' gs gs' hl h hg hb; cases xs' with
    | nil => simp at hl
    | cons x' xs' =>
      refine ih xs' (by simpa using hl) (refine_rel h (fun g hg1 t ht => ?_)) (hg.step x) (fun i hi t ht => ?_)
      · have := hb 0 (by simp) t (hg.perm.mem_iff.1 (List.mem_flatten.2 ⟨g, hg1, ht⟩))
        simpa [rd] using this
      · have := hb (i + 1) (by simpa using hi) t ht
        have e : rd (x' :: xs') ((i + 1 : Nat) : Int) = rd xs' (i : Int) := by simp [rd]
        rw [e] at this
        simpa using this
/-- The least list, as rows of the final order. -/
theorem normal_rows {n : Nat} (hn : 1 ≤ n) (l : List Int) : normalL n l = l.map fun s => (valOf ((groupsF n (rd l 0) l).flatten.map (litB (xr s (rd l 0)))) : Int) := by
  unfold normalL
  refine List.map_congr_left (fun s _ => ?_)
  rw [outX_val hn (groupsF_good hn _ _).perm]
  congr 2
  refine List.map_congr_left (fun t _ => ?_)
  rw [litB_bit]
  rfl
/-- Tubes are exchanged, and some are inverted. -/
theorem normal_same {n : Nat} (hn : 1 ≤ n) (p : Int → Int) (hp : (ups n).Perm ((ups n).map p)) (l l' : List Int) (hl : l'.length = l.length)
    (hb : ∀ i, (h : i < l.length) → ∀ t, t ∈ ups n → litB (xr (rd l' (i : Int)) (rd l' 0)) (p t) = litB (xr (rd l (i : Int)) (rd l 0)) t) : normalL n l' = normalL n l := by
  rw [normal_rows hn, normal_rows hn, groupsF_grp, groupsF_grp]
  have hrel : Rel p (grp (l.map (xr · (rd l 0))) [ups n]) (grp (l'.map (xr · (rd l' 0))) [ups n]) := by
    refine grp_rel (n := n) _ _ (by simp [hl]) ⟨hp, trivial⟩ (Good.init hn) (fun i hi t ht => ?_)
    rw [List.length_map] at hi
    have := hb i hi t ht
    rw [rd_get _ i (by simpa [hl] using hi), List.getElem_map, List.getElem_map]
    rwa [rd_get l' i (by omega), rd_get l i hi] at this
  refine List.ext_getElem (by simp [hl]) (fun i h1 h2 => ?_)
  rw [List.length_map] at h1 h2
  rw [List.getElem_map, List.getElem_map]
  congr 2
  refine rel_row hrel (grp_const _ _ (List.mem_map.2 ⟨l[i], List.getElem_mem _, rfl⟩)) (fun g hg t ht => ?_)
  have := hb i h2 t ((grp_good _ (Good.init hn)).perm.mem_iff.1 (List.mem_flatten.2 ⟨g, hg, ht⟩))
  rwa [rd_get l' i h1, rd_get l i h2] at this

theorem normalL_len (n : Nat) (l : List Int) : (normalL n l).length = l.length := by unfold normalL; simp
theorem val_lt : ∀ (bs : List Bool), valOf bs < 2 ^ bs.length := by
  intro bs
  induction bs with
  | nil => simp [valOf]
  | cons b bs ih =>
    unfold valOf
    rw [List.length_cons, Nat.pow_succ]
    cases b <;> simp <;> omega
theorem val_zero : ∀ (bs : List Bool), (∀ b, b ∈ bs → b = false) → valOf bs = 0 := by
  intro bs
  induction bs with
  | nil => intro _; rfl
  | cons b bs ih =>
    intro h
    unfold valOf
    rw [ih (fun b' hb => h b' (List.mem_cons_of_mem _ hb)), h b List.mem_cons_self]
    rfl
theorem normal_rd {n : Nat} (hn : 1 ≤ n) (l : List Int) (i : Nat) (hi : i < l.length) : rd (normalL n l) (i : Int) = (valOf ((groupsF n (rd l 0) l).flatten.map (litB (xr (rd l (i : Int)) (rd l 0)))) : Int) := by
  rw [rd_get _ i (by rw [normalL_len]; exact hi)]
  simp only [normal_rows hn]
  rw [List.getElem_map, rd_get l i hi]
theorem xr_self (s : Int) : xr s s = 0 := by unfold xr; rw [Nat.xor_self]; rfl
theorem normal_first {n : Nat} (hn : 1 ≤ n) (l : List Int) (hl : 0 < l.length) : rd (normalL n l) 0 = 0 := by
  have := normal_rd hn l 0 hl
  rw [show ((0 : Nat) : Int) = 0 from rfl, xr_self] at this
  rw [this, val_zero]
  · rfl
  · intro b hb
    obtain ⟨t, _, rfl⟩ := List.mem_map.1 hb
    rw [litB_bit]
    simp
/-- The least list is its own. -/
theorem normal_normal {n : Nat} (hn : 1 ≤ n) (l : List Int) : normalL n (normalL n l) = normalL n l := by
  have hg := groupsF_good hn (rd l 0) l
  have hlen := hg.len
  refine normal_same hn (rd (toAt n (groupsF n (rd l 0) l).flatten n)) ?_ l (normalL n l) (normalL_len n l) (fun i hi t ht => ?_)
  · have h1 : (groupsF n (rd l 0) l).flatten.map (rd (toAt n (groupsF n (rd l 0) l).flatten n)) = ups n := by
      refine List.ext_getElem (by rw [List.length_map, hlen, ups_len]) (fun k h1 h2 => ?_)
      rw [List.length_map] at h1
      rw [List.getElem_map, ← rd_get _ k h1, toAt_inv hg.perm n (Nat.le_refl _) k (by omega)]
      simp [ups]
    have h2 := hg.perm.map (rd (toAt n (groupsF n (rd l 0) l).flatten n))
    rw [h1] at h2
    exact h2
  · have hl0 : 0 < l.length := by omega
    obtain ⟨k, hk, e⟩ := List.getElem_of_mem (hg.perm.mem_iff.2 ht)
    have hinv := toAt_inv hg.perm n (Nat.le_refl _) k (by omega)
    rw [rd_get _ k hk, e] at hinv
    rw [hinv, normal_first hn l hl0, normal_rd hn l i hi, litB_bit]
    unfold xr
    rw [Int.toNat_natCast, Int.toNat_natCast, show (0 : Int).toNat = 0 from rfl, Nat.xor_zero, Int.toNat_natCast, val_bit, List.getD_eq_getElem?_getD, List.getElem?_map, List.getElem?_eq_getElem hk, e]
    rfl
theorem normal_fine {n : Nat} {l : List Int} (h : Fine n l) : Fine n (normalL n l) := by
  refine ⟨h.n1, h.n2, by rw [normalL_len]; exact h.pos, by rw [normalL_len]; exact h.len, fun x hx => ?_⟩
  rw [normal_rows h.n1] at hx
  obtain ⟨s, _, rfl⟩ := List.mem_map.1 hx
  have := val_lt ((groupsF n (rd l 0) l).flatten.map (litB (xr s (rd l 0))))
  rw [List.length_map, (groupsF_good h.n1 (rd l 0) l).len] at this
  omega
end Go.Proofs.Ytnakkdaeehglnaa.P

set_option linter.unusedSimpArgs false
set_option linter.unusedVariables false
namespace Go.Proofs.Ytnakkdaeehglnaa.P
open Go.Lib Go.RowKit Go.Proofs.YtnakkdaeehglnaaW.PrintWords Go.Proofs.YtnakkdaeehglnaaW.PrintMore Go.Proofs.Ytnakkdaeehglnaa.Kit

/-- A state whose tubes go k places on, round. -/
def rotN (n k s : Nat) : Nat := s * 2 ^ k % 2 ^ n + s / 2 ^ (n - k)
theorem rot_form {n k s : Nat} (hk : k < n) (hs : s < 2 ^ n) : rotN n k s = 2 ^ k * (s % 2 ^ (n - k)) + s / 2 ^ (n - k) ∧ s / 2 ^ (n - k) < 2 ^ k := by
  have e : 2 ^ n = 2 ^ (n - k) * 2 ^ k := by rw [← Nat.pow_add]; congr 1; omega
  constructor
  · unfold rotN
    rw [e, Nat.mul_mod_mul_right, Nat.mul_comm]
  · rw [Nat.div_lt_iff_lt_mul (Nat.two_pow_pos _), Nat.mul_comm, ← e]
    exact hs
theorem rot_bit {n k s : Nat} (hk : k < n) (hs : s < 2 ^ n) (j : Nat) : (rotN n k s).testBit j = if j < k then s.testBit (n - k + j) else (decide (j < n) && s.testBit (j - k)) := by
  obtain ⟨e, h⟩ := rot_form hk hs
  rw [e, Nat.testBit_two_pow_mul_add _ h]
  by_cases hj : j < k
  · rw [if_pos hj, if_pos hj, Nat.testBit_div_two_pow, Nat.add_comm]
  · rw [if_neg hj, if_neg hj, Nat.testBit_mod_two_pow]
    congr 1
    rw [decide_eq_decide]
    omega
theorem rot_fwd {n k s : Nat} (hk : k < n) (hs : s < 2 ^ n) {t : Nat} (ht : t < n) : (rotN n k s).testBit ((t + k) % n) = s.testBit t := by
  rw [rot_bit hk hs]
  by_cases h : t + k < n
  · rw [Nat.mod_eq_of_lt h, if_neg (by omega), decide_eq_true (by omega), Bool.true_and]
    congr 1
    omega
  · rw [Nat.mod_eq_sub_mod (by omega), Nat.mod_eq_of_lt (by omega), if_pos (by omega)]
    congr 1
    omega
theorem rot_lt {n k s : Nat} (hk : k < n) (hs : s < 2 ^ n) : rotN n k s < 2 ^ n := by
  apply Nat.lt_pow_two_of_testBit
  intro j hj
  rw [rot_bit hk hs, if_neg (by omega), decide_eq_false (by omega), Bool.false_and]
theorem bits_lt {n x y : Nat} (hx : x < 2 ^ n) (hy : y < 2 ^ n) (h : ∀ t, t < n → x.testBit t = y.testBit t) : x = y := by
  apply Nat.eq_of_testBit_eq
  intro t
  by_cases ht : t < n
  · exact h t ht
  · have hp := Nat.pow_le_pow_right (n := 2) (by decide) (show n ≤ t by omega)
    rw [Nat.testBit_lt_two_pow (by omega), Nat.testBit_lt_two_pow (by omega)]
theorem rot_inj {n k x y : Nat} (hk : k < n) (hx : x < 2 ^ n) (hy : y < 2 ^ n) (h : rotN n k x = rotN n k y) : x = y :=
  bits_lt hx hy (fun t ht => by rw [← rot_fwd hk hx ht, ← rot_fwd hk hy ht, h])
theorem rot_xor {n k x y : Nat} (hk : k < n) (hx : x < 2 ^ n) (hy : y < 2 ^ n) : rotN n k (x ^^^ y) = rotN n k x ^^^ rotN n k y := by
  apply Nat.eq_of_testBit_eq
  intro j
  rw [Nat.testBit_xor, rot_bit hk hx, rot_bit hk hy, rot_bit hk (Nat.xor_lt_two_pow hx hy)]
  by_cases hj : j < k
  · rw [if_pos hj, if_pos hj, if_pos hj, Nat.testBit_xor]
  · rw [if_neg hj, if_neg hj, if_neg hj, Nat.testBit_xor]
    cases decide (j < n) <;> simp
theorem rot_pow {n k t : Nat} (hk : k < n) (ht : t < n) : rotN n k (2 ^ t) = 2 ^ ((t + k) % n) := by
  have h1 : 2 ^ t < 2 ^ n := Nat.pow_lt_pow_right (by decide) ht
  have h2 : (t + k) % n < n := Nat.mod_lt _ (by omega)
  refine bits_lt (rot_lt hk h1) (Nat.pow_lt_pow_right (by decide) h2) (fun j hj => ?_)
  rw [rot_bit hk h1, Nat.testBit_two_pow, Nat.testBit_two_pow, Nat.testBit_two_pow]
  by_cases h : t + k < n
  · rw [Nat.mod_eq_of_lt h]
    by_cases hjk : j < k
    · rw [if_pos hjk, decide_eq_decide]; omega
    · rw [if_neg hjk, decide_eq_true hj, Bool.true_and, decide_eq_decide]; omega
  · rw [Nat.mod_eq_sub_mod (by omega), Nat.mod_eq_of_lt (by omega)]
    by_cases hjk : j < k
    · rw [if_pos hjk, decide_eq_decide]; omega
    · rw [if_neg hjk, decide_eq_true hj, Bool.true_and, decide_eq_decide]; omega
theorem rot_back {n k u : Nat} (hk : k < n) (hu : u < n) : ∃ t, t < n ∧ (t + k) % n = u := by
  by_cases h : k ≤ u
  · exact ⟨u - k, by omega, by rw [Nat.mod_eq_of_lt (by omega)]; omega⟩
  · exact ⟨u + n - k, by omega, by rw [Nat.mod_eq_sub_mod (by omega), Nat.mod_eq_of_lt (by omega)]; omega⟩
theorem rot_two {n k x : Nat} (hk : k < n) (hx : x < 2 ^ n) : (∃ t, t < n ∧ rotN n k x = 2 ^ t) ↔ ∃ t, t < n ∧ x = 2 ^ t := by
  constructor
  · rintro ⟨u, hu, e⟩
    obtain ⟨t, ht, rfl⟩ := rot_back hk hu
    exact ⟨t, ht, rot_inj hk hx (Nat.pow_lt_pow_right (by decide) ht) (by rw [e, rot_pow hk ht])⟩
  · rintro ⟨t, ht, rfl⟩
    exact ⟨(t + k) % n, Nat.mod_lt _ (by omega), rot_pow hk ht⟩
end Go.Proofs.Ytnakkdaeehglnaa.P

set_option linter.unusedSimpArgs false
set_option linter.unusedVariables false
namespace Go.Proofs.Ytnakkdaeehglnaa.P
open Go.Lib Go.RowKit Go.Proofs.YtnakkdaeehglnaaW.PrintWords Go.Proofs.YtnakkdaeehglnaaW.PrintMore Go.Proofs.Ytnakkdaeehglnaa.Kit

theorem states_l0 (n : Nat) (h2 : n ≤ 12) (l : List Int) (hl : l.length ≤ 4096) : ∀ d i, l.length - i = d → i ≤ l.length →
    Ev (fun k => neonwrightref04_States.l0 k (n : Int) l (i : Int)) (if okFrom (fun i => !stOut (n : Int) (rd l (i : Int))) d i = true then 0 else 2) := by
  intro d
  induction d with
  | zero =>
    intro i hd hi
    refine Ev.step (f := fun _ => some 0) (fun k => ?_) (Ev.now _)
    simp only [neonwrightref04_States.l0]
    rw [if_neg (by omega)]
  | succ d ih =>
    intro i hd hi
    have hil : i < l.length := by omega
    have h1 := ih (i + 1) (by omega) (by omega)
    have hw : wrap64 ((i : Int) + 1) = ((i + 1 : Nat) : Int) := by rw [w64 (by omega) (by omega)]; rfl
    unfold okFrom
    refine Ev.step (f := fun k => if stOut (n : Int) (rd l (i : Int)) = true then some 2 else neonwrightref04_States.l0 k (n : Int) l ((i + 1 : Nat) : Int)) (fun k => ?_) ?_
    · simp only [neonwrightref04_States.l0]
      rw [if_pos (by omega), if_pos (by omega), hw]
      unfold stOut
      rw [Int.toNat_natCast]
      by_cases c : rd l (i : Int) < 0
      · rw [if_pos c, decide_eq_true c, if_pos (by rfl)]
      · rw [if_neg c, if_pos (by omega), shl1n (by omega), decide_eq_false c, Bool.false_or]
        by_cases c2 : rd l (i : Int) ≥ ((2 ^ n : Nat) : Int)
        · rw [if_pos c2, if_pos (decide_eq_true c2)]
        · rw [if_neg c2, if_neg (by rw [decide_eq_false c2]; decide)]
    · cases hb : stOut (n : Int) (rd l (i : Int)) with
      | true => exact Ev.pos rfl (Ev.now _)
      | false => exact Ev.neg (by decide) (by simpa using h1)
theorem any_okFrom (n : Int) (l : List Int) : okFrom (fun i => !stOut n (rd l (i : Int))) l.length 0 = !l.any (stOut n) := by
  rw [Bool.eq_iff_iff, okFrom_iff, Bool.not_eq_true', Bool.eq_false_iff]
  constructor
  · intro h h2
    obtain ⟨x, hx, h3⟩ := List.any_eq_true.1 h2
    obtain ⟨i, hi, rfl⟩ := List.getElem_of_mem hx
    have h4 := h i (by omega) (by omega)
    rw [rd_get l i hi, h3] at h4
    cases h4
  · intro h i _ hi
    rw [rd_get l i (by omega), Bool.not_eq_true', Bool.eq_false_iff]
    intro h3
    exact h (List.any_eq_true.2 ⟨_, List.getElem_mem _, h3⟩)
theorem states_ev (n : Int) (l : List Int) : Ev (fun k => neonwrightref04_States.f k n l) (listedN n l) := by
  unfold listedN
  by_cases hn : 1 ≤ n ∧ n ≤ 12
  · rw [if_pos hn]
    obtain ⟨m, rfl⟩ : ∃ m : Nat, n = m := ⟨n.toNat, by omega⟩
    have hp := pow12' (n := m) (by omega)
    rw [Int.toNat_natCast]
    by_cases h1 : (l.length : Int) > ((2 ^ m : Nat) : Int)
    · rw [if_pos h1]
      refine Ev.at 0 (fun k _ => ?_)
      unfold neonwrightref04_States.f
      rw [tubes_f, Option.bind_some, decide_eq_true hn, if_pos rfl, if_pos (by omega), shl1n (by omega), if_pos h1]
    · rw [if_neg h1]
      by_cases h2 : l.length = 0
      · rw [if_pos h2]
        refine Ev.at 0 (fun k _ => ?_)
        unfold neonwrightref04_States.f
        rw [tubes_f, Option.bind_some, decide_eq_true hn, if_pos rfl, if_pos (by omega), shl1n (by omega), if_neg h1, if_pos (by omega)]
      · rw [if_neg h2]
        have h3 := states_l0 m (by omega) l (by omega) l.length 0 (by omega) (by omega)
        rw [any_okFrom] at h3
        have e : (if (!l.any (stOut (m : Int))) = true then (0 : Int) else 2) = (if l.any (stOut (m : Int)) = true then 2 else 0) := by cases l.any (stOut (m : Int)) <;> rfl
        rw [e] at h3
        refine Ev.congr (f := fun k => neonwrightref04_States.l0 k (m : Int) l ((0 : Nat) : Int)) (fun k => ?_) h3
        show neonwrightref04_States.f k _ _ = _
        unfold neonwrightref04_States.f
        rw [tubes_f, Option.bind_some, decide_eq_true hn, if_pos rfl, if_pos (by omega), shl1n (by omega), if_neg h1, if_neg (by omega)]
        rfl
  · rw [if_neg hn]
    refine Ev.at 0 (fun k _ => ?_)
    unfold neonwrightref04_States.f
    rw [tubes_f, Option.bind_some, decide_eq_false hn, if_neg (by decide)]
/-- A state differs from those before it. -/
def newB (l : List Int) (i : Nat) : Nat → Nat → Bool := okFrom (fun q => decide (rd l (q : Int) ≠ rd l (i : Int)))
theorem rpath_l1 {n : Nat} {l : List Int} (h : Fine n l) (i : Nat) (hi : i < l.length) (R : Bool × Bool) (hR : Ev (fun k => neonwrightref04_path.l0 k l ((i + 1 : Nat) : Int)) R) :
    ∀ d j, i - j = d → j ≤ i → Ev (fun k => neonwrightref04_path.l1 k l (i : Int) (j : Int)) (if newB l i d j = true then R else (false, false)) := by
  have hl := h.le
  intro d
  induction d with
  | zero =>
    intro j hd hj
    refine Ev.step (f := fun k => neonwrightref04_path.l0 k l ((i + 1 : Nat) : Int)) (fun k => ?_) hR
    simp only [neonwrightref04_path.l1]
    rw [if_neg (by omega), w64 (x := (i : Int) + 1) (by omega) (by omega)]
    rfl
  | succ d ih =>
    intro j hd hj
    have h1 := ih (j + 1) (by omega) (by omega)
    unfold newB at h1 ⊢
    unfold okFrom
    refine Ev.step (f := fun k => if rd l (j : Int) = rd l (i : Int) then some (false, false) else neonwrightref04_path.l1 k l (i : Int) ((j + 1 : Nat) : Int)) (fun k => ?_) ?_
    · simp only [neonwrightref04_path.l1]
      rw [if_pos (by omega), if_pos (by omega), if_pos (by omega), if_pos (by omega), if_pos (by omega), w64 (x := (j : Int) + 1) (by omega) (by omega)]
      rfl
    · by_cases c : rd l (j : Int) = rd l (i : Int)
      · refine Ev.pos c ?_
        rw [decide_eq_false (fun hne => hne c), Bool.false_and, if_neg (by decide)]
        exact Ev.now _
      · refine Ev.neg c ?_
        rw [decide_eq_true c, Bool.true_and]
        exact h1
def stepB (l : List Int) (i : Nat) : Bool := (decide (i = 0) || nx (rd l ((i - 1 : Nat) : Int)) (rd l (i : Int))) && newB l i i 0
theorem rpath_l0 {n : Nat} {l : List Int} (h : Fine n l) : ∀ d i, l.length - i = d → i ≤ l.length →
    Ev (fun k => neonwrightref04_path.l0 k l (i : Int)) (if okFrom (stepB l) d i = true then (true, closedB l) else (false, false)) := by
  have hl := h.le
  intro d
  induction d with
  | zero =>
    intro i hd hi
    refine Ev.step (f := fun _ => some (true, closedB l)) (fun k => ?_) (Ev.now _)
    simp only [neonwrightref04_path.l0]
    rw [if_neg (by omega), last_w h.pos (by omega)]
    unfold closedB
    have hp := h.pos
    by_cases h4 : 4 ≤ l.length
    · rw [if_pos (by omega), if_pos (by omega), if_pos (by omega), if_pos (by omega), decide_eq_true h4, Bool.true_and]
      have h0 := near_nx (h.rd 0 hp) (h.rd (l.length - 1) (by omega))
      rw [show ((0 : Nat) : Int) = 0 from rfl] at h0
      rw [h0, Option.bind_some]
    · rw [if_neg (by omega), decide_eq_false h4]
      rfl
  | succ d ih =>
    intro i hd hi
    have hil : i < l.length := by omega
    have h1 := rpath_l1 h i hil _ (ih (i + 1) (by omega) (by omega)) i 0 (by omega) (by omega)
    unfold okFrom
    have e : (if (stepB l i && okFrom (stepB l) d (i + 1)) = true then (true, closedB l) else (false, false)) = (if (decide (i = 0) || nx (rd l ((i - 1 : Nat) : Int)) (rd l (i : Int))) = true then (if newB l i i 0 = true then (if okFrom (stepB l) d (i + 1) = true then (true, closedB l) else (false, false)) else (false, false)) else (false, false)) := by
      unfold stepB
      cases (decide (i = 0) || nx (rd l ((i - 1 : Nat) : Int)) (rd l (i : Int))) <;> cases newB l i i 0 <;> simp
    rw [e]
    refine Ev.step (f := fun k => neonwrightref04_path.j1 k l (i : Int) (!(decide (i = 0) || nx (rd l ((i - 1 : Nat) : Int)) (rd l (i : Int))))) (fun k => ?_) ?_
    · simp only [neonwrightref04_path.l0]
      rw [if_pos (by omega)]
      by_cases c : i = 0
      · rw [if_neg (by omega), decide_eq_true c, Bool.true_or]
        rfl
      · rw [if_pos (by omega), w64 (x := (i : Int) - 1) (by omega) (by omega), show (i : Int) - 1 = ((i - 1 : Nat) : Int) from by omega, if_pos (by omega), if_pos (by omega), if_pos (by omega), near_nx (h.rd (i - 1) (by omega)) (h.rd i hil), Option.bind_some, decide_eq_false c, Bool.false_or]
    · cases (decide (i = 0) || nx (rd l ((i - 1 : Nat) : Int)) (rd l (i : Int))) with
      | false =>
        refine Ev.step (f := fun _ => some (false, false)) (fun k => ?_) (Ev.now _)
        simp only [neonwrightref04_path.j1]; rfl
      | true =>
        refine Ev.step (f := fun k => neonwrightref04_path.l1 k l (i : Int) ((0 : Nat) : Int)) (fun k => ?_) h1
        simp only [neonwrightref04_path.j1]; rfl
theorem newB_has {l : List Int} {i : Nat} (hi : i < l.length) : newB l i i 0 = !(l.take i).contains (rd l (i : Int)) := by
  unfold newB
  rw [Bool.eq_iff_iff, okFrom_iff, Bool.not_eq_true', Bool.eq_false_iff, ne_eq, List.contains_iff_mem, List.mem_take_iff_getElem]
  constructor
  · rintro h ⟨j, hj, e⟩
    have h2 := of_decide_eq_true (h j (by omega) (by omega))
    rw [rd_get l j (by omega)] at h2
    exact h2 e
  · intro h j _ hj
    refine decide_eq_true (fun e => h ⟨j, by omega, ?_⟩)
    rw [rd_get l j (by omega)] at e
    exact e
theorem stepB_p {l : List Int} {i : Nat} (hi : i < l.length) : stepB l i = pStep l i := by
  unfold stepB pStep
  rw [newB_has hi, Bool.and_comm]
  by_cases h0 : i = 0
  · rw [decide_eq_true h0, Bool.true_or, Bool.true_or]
  · rw [show ((i - 1 : Nat) : Int) = (i : Int) - 1 from by omega]
theorem path_ok (l : List Int) : okFrom (stepB l) l.length 0 = pathB l := by
  unfold pathB
  rw [Bool.eq_iff_iff, okFrom_iff, List.all_eq_true]
  constructor
  · intro h i hi
    rw [← stepB_p (List.mem_range.1 hi)]
    exact h i (by omega) (by have := List.mem_range.1 hi; omega)
  · intro h i _ hi
    rw [stepB_p (by omega)]
    exact h i (List.mem_range.2 (by omega))
theorem rpath_ev {n : Nat} {l : List Int} (h : Fine n l) : Ev (fun k => neonwrightref04_path.f k l) (pathB l, pathB l && closedB l) := by
  have h1 := rpath_l0 h l.length 0 (by omega) (by omega)
  rw [path_ok] at h1
  have e : (if pathB l = true then (true, closedB l) else (false, false)) = (pathB l, pathB l && closedB l) := by cases pathB l <;> simp
  rw [e] at h1
  exact h1
theorem rPath_ev (n : Int) (l : List Int) : Ev (fun k => neonwrightref04_Path.f k n l) (pathR n l) := by
  unfold pathR
  refine Ev.congr (f := fun k => (neonwrightref04_States.f k n l).bind fun t401 => (if t401 = 0 then ((neonwrightref04_path.f k l).bind fun bt402 => (some (bt402.1, bt402.2, 0))) else (some (false, false, t401)))) (fun k => rfl) (Ev.bnd (states_ev n l) ?_)
  by_cases hz : listedN n l = 0
  · obtain ⟨m, rfl, hf⟩ := listedN_fine hz
    rw [if_pos hz]
    exact Ev.pos hz (Ev.bnd (rpath_ev hf) (Ev.now _))
  · rw [if_neg hz]
    exact Ev.neg hz (Ev.now _)
/-- The reference's pairs. -/
def farB (l : List Int) (i k : Nat) : Bool := !nx (rd l (i : Int)) (rd l (k : Int))
def endB (l : List Int) (i k : Nat) : Bool := !nx (rd l (i : Int)) (rd l (k : Int)) || (decide (k = 0) && decide (i = l.length - 1))
theorem rsnake_l1 {n : Nat} {l : List Int} (h : Fine n l) (i : Nat) (hi : i < l.length) (R : Bool → Bool → Bool × Bool) (hR : ∀ c s, Ev (fun k => neonwrightref04_snake.l0 k l c s ((i + 1 : Nat) : Int)) (R c s)) :
    ∀ d k0 c s, (i - 1) - k0 = d → Ev (fun k => neonwrightref04_snake.l1 k l c s (i : Int) (k0 : Int)) (R (c && okFrom (endB l i) d k0) (s && okFrom (farB l i) d k0)) := by
  have hl := h.le
  have hp := h.pos
  intro d
  induction d with
  | zero =>
    intro k0 c s hd
    rw [show okFrom (endB l i) 0 k0 = true from rfl, show okFrom (farB l i) 0 k0 = true from rfl, Bool.and_true, Bool.and_true]
    refine Ev.step (f := fun k => neonwrightref04_snake.l0 k l c s ((i + 1 : Nat) : Int)) (fun k => ?_) (hR c s)
    simp only [neonwrightref04_snake.l1]
    rw [w64 (x := (i : Int) - 1) (by omega) (by omega), if_neg (by omega), w64 (x := (i : Int) + 1) (by omega) (by omega)]
    rfl
  | succ d ih =>
    intro k0 c s hd
    have hk : k0 < l.length := by omega
    have h1 := ih (k0 + 1) (c && endB l i k0) (s && farB l i k0) (by omega)
    unfold okFrom
    rw [← Bool.and_assoc, ← Bool.and_assoc]
    have hw : wrap64 ((k0 : Int) + 1) = ((k0 + 1 : Nat) : Int) := by rw [w64 (by omega) (by omega)]; rfl
    refine Ev.step (f := fun k => neonwrightref04_snake.l1 k l (c && endB l i k0) (s && farB l i k0) (i : Int) ((k0 + 1 : Nat) : Int)) (fun k => ?_) h1
    simp only [neonwrightref04_snake.l1]
    rw [w64 (x := (i : Int) - 1) (by omega) (by omega), if_pos (by omega), hw, last_w hp (by omega)]
    unfold endB farB
    have hn := near_nx (h.rd i hi) (h.rd k0 hk)
    by_cases c0 : k0 = 0
    · rw [if_pos (by omega), if_pos (by omega), if_pos (by omega), if_pos (by omega), if_pos (by omega), hn, Option.bind_some]
      have e : ((i : Int) == ((l.length - 1 : Nat) : Int)) = decide (i = l.length - 1) := by
        rw [Bool.eq_iff_iff, beq_iff_eq, decide_eq_true_eq]; omega
      rw [e]
      cases nx (rd l (i : Int)) (rd l (k0 : Int)) with
      | false => rw [if_neg (by decide)]; simp
      | true =>
        rw [if_pos rfl]
        cases c with
        | true => rw [if_pos rfl]; simp [c0]
        | false => rw [if_neg (by decide)]; simp
    · rw [if_neg (by omega), if_pos (by omega), if_pos (by omega), if_pos (by omega), if_pos (by omega), hn, Option.bind_some]
      cases nx (rd l (i : Int)) (rd l (k0 : Int)) with
      | false => rw [if_neg (by decide)]; simp
      | true =>
        rw [if_pos rfl]
        cases c with
        | true => rw [if_pos rfl]; simp [c0]
        | false => rw [if_neg (by decide)]; simp
theorem rsnake_l0 {n : Nat} {l : List Int} (h : Fine n l) : ∀ d i c s, l.length - i = d → i ≤ l.length →
    Ev (fun k => neonwrightref04_snake.l0 k l c s (i : Int)) (s && okFrom (fun i => okFrom (farB l i) (i - 1) 0) d i, c && okFrom (fun i => okFrom (endB l i) (i - 1) 0) d i) := by
  intro d
  induction d with
  | zero =>
    intro i c s hd hi
    rw [show okFrom (fun i => okFrom (farB l i) (i - 1) 0) 0 i = true from rfl, show okFrom (fun i => okFrom (endB l i) (i - 1) 0) 0 i = true from rfl, Bool.and_true, Bool.and_true]
    refine Ev.step (f := fun _ => some (s, c)) (fun k => ?_) (Ev.now _)
    simp only [neonwrightref04_snake.l0]
    rw [if_neg (by omega)]
  | succ d ih =>
    intro i c s hd hi
    have hil : i < l.length := by omega
    have h1 := rsnake_l1 h i hil (fun c s => (s && okFrom (fun i => okFrom (farB l i) (i - 1) 0) d (i + 1), c && okFrom (fun i => okFrom (endB l i) (i - 1) 0) d (i + 1))) (fun c s => ih (i + 1) c s (by omega) (by omega)) (i - 1) 0 c s (by omega)
    unfold okFrom
    rw [← Bool.and_assoc, ← Bool.and_assoc]
    refine Ev.step (f := fun k => neonwrightref04_snake.l1 k l c s (i : Int) ((0 : Nat) : Int)) (fun k => ?_) h1
    simp only [neonwrightref04_snake.l0]
    rw [if_pos (by omega)]
    rfl
theorem far_snake (l : List Int) : okFrom (fun i => okFrom (farB l i) (i - 1) 0) l.length 0 = snakeB l false := by
  unfold snakeB
  rw [Bool.eq_iff_iff, okFrom_iff, okFrom_iff]
  constructor
  · intro h i _ hi
    rw [okFrom_iff]
    intro j h1 h2
    have h3 := (okFrom_iff _ _ _).1 (h j (by omega) (by omega)) i (by omega) (by omega)
    unfold farB at h3
    unfold pairOk
    rw [nx_comm, h3]
    rfl
  · intro h j _ hj
    rw [okFrom_iff]
    intro i h1 h2
    have h3 := (okFrom_iff _ _ _).1 (h i (by omega) (by omega)) j (by omega) (by omega)
    unfold pairOk at h3
    unfold farB
    rw [nx_comm]
    simpa using h3
theorem end_snake (l : List Int) : okFrom (fun i => okFrom (endB l i) (i - 1) 0) l.length 0 = snakeB l true := by
  unfold snakeB
  rw [Bool.eq_iff_iff, okFrom_iff, okFrom_iff]
  constructor
  · intro h i _ hi
    rw [okFrom_iff]
    intro j h1 h2
    have h3 := (okFrom_iff _ _ _).1 (h j (by omega) (by omega)) i (by omega) (by omega)
    unfold endB at h3
    unfold pairOk
    rw [nx_comm, Bool.true_and]
    exact h3
  · intro h j _ hj
    rw [okFrom_iff]
    intro i h1 h2
    have h3 := (okFrom_iff _ _ _).1 (h i (by omega) (by omega)) j (by omega) (by omega)
    unfold pairOk at h3
    unfold endB
    rw [nx_comm]
    rw [Bool.true_and] at h3
    exact h3
theorem rsnake_ev {n : Nat} {l : List Int} (h : Fine n l) : Ev (fun k => neonwrightref04_snake.f k l) (pathB l && snakeB l false, pathB l && closedB l && snakeB l true) := by
  refine Ev.congr (f := fun k => (neonwrightref04_path.f k l).bind fun bt244 => (if bt244.1 = true then (neonwrightref04_snake.l0 k l bt244.2 true ((0 : Nat) : Int)) else (some (false, false)))) (fun k => rfl) (Ev.bnd (rpath_ev h) ?_)
  have h1 := rsnake_l0 h l.length 0 (pathB l && closedB l) true (by omega) (by omega)
  rw [far_snake, end_snake, Bool.true_and] at h1
  cases hp : pathB l with
  | false => exact Ev.neg (by simp) (by simpa using Ev.now _)
  | true =>
    rw [hp] at h1
    exact Ev.pos rfl (by simpa using h1)
theorem rSnake_ev (n : Int) (l : List Int) : Ev (fun k => neonwrightref04_Snake.f k n l) (snakeR n l) := by
  unfold snakeR
  refine Ev.congr (f := fun k => (neonwrightref04_States.f k n l).bind fun t252 => (if t252 = 0 then ((neonwrightref04_snake.f k l).bind fun bt253 => (some (bt253.1, bt253.2, 0))) else (some (false, false, t252)))) (fun k => rfl) (Ev.bnd (states_ev n l) ?_)
  by_cases hz : listedN n l = 0
  · obtain ⟨m, rfl, hf⟩ := listedN_fine hz
    rw [if_pos hz]
    exact Ev.pos hz (Ev.bnd (rsnake_ev hf) (Ev.now _))
  · rw [if_neg hz]
    exact Ev.neg hz (Ev.now _)
end Go.Proofs.Ytnakkdaeehglnaa.P

set_option linter.unusedSimpArgs false
set_option linter.unusedVariables false
namespace Go.Proofs.Ytnakkdaeehglnaa.P
open Go.Lib Go.RowKit Go.Proofs.YtnakkdaeehglnaaW.PrintWords Go.Proofs.YtnakkdaeehglnaaW.PrintMore Go.Proofs.Ytnakkdaeehglnaa.Kit

theorem one_two_all' : ((List.range 64).all fun a => (List.range 64).all fun b => ((List.range 12).any fun t => 2 ^ t == 64 * a + b) == oneN (64 * a + b)) = true := by decide +kernel
theorem one_two' {x : Nat} (h : x < 4096) (ho : oneN x = true) : ∃ t, t < 12 ∧ x = 2 ^ t := by
  have h1 := one_two_all'
  rw [List.all_eq_true] at h1
  have h2 := h1 (x / 64) (List.mem_range.2 (by omega))
  rw [List.all_eq_true] at h2
  have h3 := h2 (x % 64) (List.mem_range.2 (by omega))
  rw [show 64 * (x / 64) + x % 64 = x from by omega] at h3
  rw [← beq_iff_eq.1 h3, List.any_eq_true] at ho
  obtain ⟨t, ht, e⟩ := ho
  exact ⟨t, List.mem_range.1 ht, (beq_iff_eq.1 e).symm⟩
theorem bitLen_two : ∀ t : Fin 12, Lib.bitLen (2 ^ t.val) = t.val + 1 := by decide +kernel
/-- The tube in which two states differ. -/
def tg (l : List Int) (i j : Nat) : Nat := Lib.bitLen ((rd l (i : Int)).toNat ^^^ (rd l (j : Int)).toNat) - 1
theorem tg_comm (l : List Int) (i j : Nat) : tg l i j = tg l j i := by unfold tg; rw [Nat.xor_comm]
theorem tg_two {n : Nat} {l : List Int} (h : Fine n l) {i j : Nat} (hi : i < l.length) (hj : j < l.length) (hn : nx (rd l (i : Int)) (rd l (j : Int)) = true) :
    (rd l (i : Int)).toNat ^^^ (rd l (j : Int)).toNat = 2 ^ tg l i j ∧ tg l i j < n ∧ Lib.bitLen ((rd l (i : Int)).toNat ^^^ (rd l (j : Int)).toNat) = tg l i j + 1 := by
  have ri := h.rd i hi
  have rj := h.rd j hj
  rw [nx_one ri rj] at hn
  have hb1 := h.all _ (List.getElem_mem hi)
  have hb2 := h.all _ (List.getElem_mem hj)
  rw [rd_get l i hi] at *
  rw [rd_get l j hj] at *
  have hx : l[i].toNat ^^^ l[j].toNat < 2 ^ n := Nat.xor_lt_two_pow (by omega) (by omega)
  have hp := pow12' h.n2
  obtain ⟨t, ht, e⟩ := one_two' (by omega) hn
  have hbl := bitLen_two ⟨t, ht⟩
  simp only at hbl
  have etg : tg l i j = t := by
    unfold tg
    rw [rd_get l i hi, rd_get l j hj, e, hbl]
    rfl
  rw [etg, e, hbl]
  refine ⟨rfl, ?_, rfl⟩
  rcases Nat.lt_or_ge t n with h1 | h1
  · exact h1
  · have := Nat.pow_le_pow_right (n := 2) (by decide) h1
    omega
/-- One more change of a tube. -/
def incr (out : List Int) (t : Nat) : List Int := out.set t (rd out (t : Int) + 1)
theorem incr_len (out : List Int) (t : Nat) : (incr out t).length = out.length := by unfold incr; rw [List.length_set]
/-- Each number is from 0 to m. -/
def upto (out : List Int) (m : Nat) : Prop := ∀ x, x ∈ out → 0 ≤ x ∧ x ≤ (m : Int)
theorem upto_rd {out : List Int} {m : Nat} (h : upto out m) (t : Nat) : 0 ≤ rd out (t : Int) ∧ rd out (t : Int) ≤ m := by
  unfold rd
  rw [Int.toNat_natCast, List.getD_eq_getElem?_getD]
  cases hx : out[t]? with
  | none => simp
  | some x => exact h x (List.mem_of_getElem? hx)
theorem upto_incr {out : List Int} {m : Nat} (h : upto out m) (t : Nat) : upto (incr out t) (m + 1) := by
  intro x hx
  unfold incr at hx
  rcases List.mem_or_eq_of_mem_set hx with hx | rfl
  · have := h x hx; omega
  · have := upto_rd h t; omega
def chg (n : Nat) (l : List Int) (m : Nat) : List Int := (List.range m).foldl (fun out (i : Nat) => incr out (tg l i (i + 1))) (List.replicate n 0)
theorem chg_succ (n : Nat) (l : List Int) (m : Nat) : chg n l (m + 1) = incr (chg n l m) (tg l m (m + 1)) := by
  unfold chg
  rw [List.range_succ, List.foldl_append, List.foldl_cons, List.foldl_nil]
theorem chg_len (n : Nat) (l : List Int) (m : Nat) : (chg n l m).length = n := by
  induction m with
  | zero => unfold chg; simp
  | succ m ih => rw [chg_succ, incr_len, ih]
theorem chg_upto (n : Nat) (l : List Int) (m : Nat) : upto (chg n l m) m := by
  induction m with
  | zero =>
    intro x hx
    unfold chg at hx
    have := List.eq_of_mem_replicate hx
    omega
  | succ m ih => rw [chg_succ]; exact upto_incr ih _
def changesL (n : Nat) (l : List Int) : List Int := if closedB l = true then incr (chg n l (l.length - 1)) (tg l 0 (l.length - 1)) else chg n l (l.length - 1)
theorem path_next {l : List Int} (h : pathB l = true) {i : Nat} (hi : i + 1 < l.length) : nx (rd l (i : Int)) (rd l ((i + 1 : Nat) : Int)) = true := by
  unfold pathB at h
  have h1 := List.all_eq_true.1 h (i + 1) (List.mem_range.2 hi)
  unfold pStep at h1
  rw [Bool.and_eq_true, Bool.or_eq_true] at h1
  rcases h1.2 with h2 | h2
  · have := of_decide_eq_true h2; omega
  · rw [show (((i + 1 : Nat) : Int) - 1) = (i : Int) from by omega] at h2
    exact h2
end Go.Proofs.Ytnakkdaeehglnaa.P

set_option linter.unusedSimpArgs false
set_option linter.unusedVariables false
namespace Go.Proofs.Ytnakkdaeehglnaa.P
open Go.Lib Go.RowKit Go.Proofs.YtnakkdaeehglnaaW.PrintWords Go.Proofs.YtnakkdaeehglnaaW.PrintMore Go.Proofs.Ytnakkdaeehglnaa.Kit

def sumL (l : List Int) : Int := l.foldr (· + ·) 0
theorem sum_set : ∀ (l : List Int) (t : Nat) (x : Int), t < l.length → sumL (l.set t x) = sumL l - rd l (t : Int) + x := by
  intro l
  induction l with
  | nil => intro t x h; exact absurd h (by simp)
  | cons a l ih =>
    intro t x h
    cases t with
    | zero =>
      unfold sumL rd
      simp
      omega
    | succ t =>
      have h2 : t < l.length := by simpa using h
      have h1 := ih t x h2
      have e : rd (a :: l) ((t + 1 : Nat) : Int) = rd l (t : Int) := by
        rw [rd_get (a :: l) (t + 1) h, rd_get l t h2]
        rfl
      rw [e]
      unfold sumL at h1 ⊢
      rw [List.set_cons_succ, List.foldr_cons, List.foldr_cons, h1]
      omega
theorem sum_incr {out : List Int} {t : Nat} (h : t < out.length) : sumL (incr out t) = sumL out + 1 := by
  unfold incr
  rw [sum_set _ _ _ h]
  omega
theorem sum_zeros (n : Nat) : sumL (List.replicate n 0) = 0 := by
  induction n with
  | zero => rfl
  | succ n ih =>
    unfold sumL at ih ⊢
    rw [List.replicate_succ, List.foldr_cons, ih]
    rfl
theorem sum_chg {n : Nat} {l : List Int} (h : Fine n l) (hp : pathB l = true) : ∀ m, m + 1 ≤ l.length → sumL (chg n l m) = m := by
  intro m
  induction m with
  | zero => intro _; unfold chg; exact sum_zeros n
  | succ m ih =>
    intro hm
    have ht := (tg_two h (by omega) (by omega) (path_next hp (i := m) (by omega))).2.1
    rw [chg_succ, sum_incr (by rw [chg_len]; exact ht), ih (by omega)]
    omega
theorem closed_nx {l : List Int} (hc : closedB l = true) : 4 ≤ l.length ∧ nx (rd l ((0 : Nat) : Int)) (rd l ((l.length - 1 : Nat) : Int)) = true := by
  unfold closedB at hc
  rw [Bool.and_eq_true] at hc
  exact ⟨of_decide_eq_true hc.1, hc.2⟩
theorem sum_changes {n : Nat} {l : List Int} (h : Fine n l) (hp : pathB l = true) : sumL (changesL n l) = if closedB l = true then (l.length : Int) else (l.length : Int) - 1 := by
  have hpos := h.pos
  have hs := sum_chg h hp (l.length - 1) (by omega)
  unfold changesL
  cases hc : closedB l with
  | true =>
    obtain ⟨h4, hn⟩ := closed_nx hc
    have ht := (tg_two h (by omega) (by omega) hn).2.1
    rw [if_pos rfl, if_pos rfl, sum_incr (by rw [chg_len]; exact ht), hs]
    omega
  | false => rw [if_neg (by decide), if_neg (by decide), hs]; omega
/-- Whether a tube is lit. -/
def bt2 (l : List Int) (i t : Nat) : Bool := (rd l (i : Int)).toNat.testBit t
theorem incr_rd (out : List Int) (u t : Nat) (hu : u < out.length) : rd (incr out u) (t : Int) = rd out (t : Int) + if t = u then 1 else 0 := by
  unfold incr rd
  rw [Int.toNat_natCast, List.getD_eq_getElem?_getD, List.getD_eq_getElem?_getD, Int.toNat_natCast, List.getD_eq_getElem?_getD]
  by_cases e : t = u
  · subst e
    rw [List.getElem?_set_self hu, if_pos rfl]
    rfl
  · rw [List.getElem?_set_ne (fun e2 => e e2.symm), if_neg e]
    omega
theorem bit_flip {n : Nat} {l : List Int} (h : Fine n l) {i j : Nat} (hi : i < l.length) (hj : j < l.length) (hn : nx (rd l (i : Int)) (rd l (j : Int)) = true) (t : Nat) :
    (bt2 l i t != bt2 l j t) = decide (t = tg l i j) := by
  have e := (tg_two h hi hj hn).1
  unfold bt2
  have h1 : ((rd l (i : Int)).toNat ^^^ (rd l (j : Int)).toNat).testBit t = (2 ^ tg l i j).testBit t := by rw [e]
  rw [Nat.testBit_xor, Nat.testBit_two_pow] at h1
  have h2 : ∀ a b : Bool, (a != b) = (a ^^ b) := by decide
  rw [h2, h1]
  rw [Bool.eq_iff_iff, decide_eq_true_eq, decide_eq_true_eq]
  exact eq_comm
/-- How often a tube has changed is odd exactly if it is another one than at the begin. -/
theorem chg_parity {n : Nat} {l : List Int} (h : Fine n l) (hp : pathB l = true) (t : Nat) : ∀ m, m + 1 ≤ l.length → rd (chg n l m) (t : Int) % 2 = if (bt2 l 0 t != bt2 l m t) = true then 1 else 0 := by
  intro m
  induction m with
  | zero =>
    intro _
    rw [bne_self_eq_false, if_neg (by decide)]
    unfold chg rd
    rw [Int.toNat_natCast, List.getD_eq_getElem?_getD]
    simp only [List.range_zero, List.foldl_nil, List.getElem?_replicate]
    split <;> rfl
  | succ m ih =>
    intro hm
    have hn := path_next hp (i := m) (by omega)
    have ht := (tg_two h (by omega) (by omega) hn).2.1
    have hf := bit_flip h (by omega) (by omega) hn t
    have h1 := ih (by omega)
    rw [chg_succ, incr_rd _ _ _ (by rw [chg_len]; exact ht)]
    by_cases e : t = tg l m (m + 1)
    · rw [decide_eq_true e] at hf
      rw [if_pos e]
      generalize bt2 l 0 t = a at h1 ⊢
      generalize bt2 l m t = b at h1 hf
      generalize bt2 l (m + 1) t = c at hf ⊢
      revert h1 hf
      cases a <;> cases b <;> cases c <;> intro h1 hf <;> first | (cases hf; done) | (simp at h1 ⊢; omega)
    · rw [decide_eq_false e] at hf
      rw [if_neg e, Int.add_zero, h1]
      generalize bt2 l 0 t = a
      generalize bt2 l m t = b at hf ⊢
      generalize bt2 l (m + 1) t = c at hf ⊢
      revert hf
      cases a <;> cases b <;> cases c <;> intro hf <;> first | (cases hf; done) | rfl
theorem changes_even {n : Nat} {l : List Int} (h : Fine n l) (hp : pathB l = true) (hc : closedB l = true) (t : Nat) : rd (changesL n l) (t : Int) % 2 = 0 := by
  have hpos := h.pos
  obtain ⟨h4, hn⟩ := closed_nx hc
  have ht := (tg_two h (by omega) (by omega) hn).2.1
  have hf := bit_flip h (by omega) (by omega) hn t
  have h1 := chg_parity h hp t (l.length - 1) (by omega)
  unfold changesL
  rw [if_pos hc, incr_rd _ _ _ (by rw [chg_len]; exact ht)]
  rw [hf] at h1
  by_cases e : t = tg l 0 (l.length - 1)
  · rw [decide_eq_true e, if_pos rfl] at h1
    rw [if_pos e]
    omega
  · rw [decide_eq_false e, if_neg (by decide)] at h1
    rw [if_neg e]
    omega
theorem changesL_len (n : Nat) (l : List Int) : (changesL n l).length = n := by
  unfold changesL
  split
  · rw [incr_len, chg_len]
  · exact chg_len _ _ _
theorem changesL_upto {n : Nat} {l : List Int} (h : Fine n l) : upto (changesL n l) 5000 := by
  have hl := h.le
  have hc := chg_upto n l (l.length - 1)
  intro x hx
  unfold changesL at hx
  split at hx
  · have := upto_incr hc _ x hx; omega
  · have := hc x hx; omega
end Go.Proofs.Ytnakkdaeehglnaa.P

set_option linter.unusedSimpArgs false
set_option linter.unusedVariables false
namespace Go.Proofs.Ytnakkdaeehglnaa.P
open Go.Lib Go.RowKit Go.Proofs.YtnakkdaeehglnaaW.PrintWords Go.Proofs.YtnakkdaeehglnaaW.PrintMore Go.Proofs.Ytnakkdaeehglnaa.Kit


theorem oneN_iff {n x : Nat} (hn : n ≤ 12) (hx : x < 2 ^ n) : oneN x = true ↔ ∃ t, t < n ∧ x = 2 ^ t := by
  have hp := pow12' hn
  constructor
  · intro h
    obtain ⟨t, ht, e⟩ := one_two' (by omega) h
    refine ⟨t, ?_, e⟩
    rcases Nat.lt_or_ge t n with h1 | h1
    · exact h1
    · have := Nat.pow_le_pow_right (n := 2) (by decide) h1
      omega
  · rintro ⟨t, _, rfl⟩
    exact one_pow t
theorem one_rot {n k x : Nat} (hn : n ≤ 12) (hk : k < n) (hx : x < 2 ^ n) : oneN (rotN n k x) = oneN x := by
  rw [Bool.eq_iff_iff, oneN_iff hn (rot_lt hk hx), oneN_iff hn hx]
  exact rot_two hk hx
/-- The tubes go k places on, round, and those of z are inverted. -/
def moved (n k z : Nat) (a : List Int) : List Int := a.map fun s => (rotN n k (s.toNat ^^^ z) : Int)
section
variable {n k z : Nat} {a : List Int}
theorem moved_len : (moved n k z a).length = a.length := by unfold moved; simp
theorem moved_rd (i : Nat) (hi : i < a.length) : rd (moved n k z a) (i : Int) = (rotN n k ((rd a (i : Int)).toNat ^^^ z) : Int) := by
  rw [rd_get _ i (by rw [moved_len]; exact hi), rd_get a i hi]
  unfold moved
  rw [List.getElem_map]
theorem fine_bit (h : Fine n a) (i : Nat) (hi : i < a.length) : (rd a (i : Int)).toNat < 2 ^ n := by
  have := h.all _ (List.getElem_mem hi)
  rw [rd_get a i hi]
  omega
theorem moved_fine (h : Fine n a) (hk : k < n) (hz : z < 2 ^ n) : Fine n (moved n k z a) := by
  refine ⟨h.n1, h.n2, by rw [moved_len]; exact h.pos, by rw [moved_len]; exact h.len, fun x hx => ?_⟩
  unfold moved at hx
  obtain ⟨s, hs, rfl⟩ := List.mem_map.1 hx
  have := h.all s hs
  have := rot_lt hk (Nat.xor_lt_two_pow (show s.toNat < 2 ^ n by omega) hz)
  omega
theorem moved_xor (h : Fine n a) (hk : k < n) (hz : z < 2 ^ n) (i j : Nat) (hi : i < a.length) (hj : j < a.length) :
    (rd (moved n k z a) (i : Int)).toNat ^^^ (rd (moved n k z a) (j : Int)).toNat = rotN n k ((rd a (i : Int)).toNat ^^^ (rd a (j : Int)).toNat) := by
  rw [moved_rd i hi, moved_rd j hj, Int.toNat_natCast, Int.toNat_natCast, ← rot_xor hk (Nat.xor_lt_two_pow (fine_bit h i hi) hz) (Nat.xor_lt_two_pow (fine_bit h j hj) hz)]
  congr 1
  generalize (rd a (i : Int)).toNat = x
  generalize (rd a (j : Int)).toNat = y
  rw [Nat.xor_assoc, ← Nat.xor_assoc z, Nat.xor_comm z y, Nat.xor_assoc, Nat.xor_self, Nat.xor_zero]
theorem moved_nx (h : Fine n a) (hk : k < n) (hz : z < 2 ^ n) (i j : Nat) (hi : i < a.length) (hj : j < a.length) :
    nx (rd (moved n k z a) (i : Int)) (rd (moved n k z a) (j : Int)) = nx (rd a (i : Int)) (rd a (j : Int)) := by
  have hm := moved_fine h hk hz
  rw [nx_one (hm.rd i (by rw [moved_len]; exact hi)) (hm.rd j (by rw [moved_len]; exact hj)), nx_one (h.rd i hi) (h.rd j hj), moved_xor h hk hz i j hi hj, one_rot h.n2 hk (Nat.xor_lt_two_pow (fine_bit h i hi) (fine_bit h j hj))]
theorem moved_eq (h : Fine n a) (hk : k < n) (hz : z < 2 ^ n) (i j : Nat) (hi : i < a.length) (hj : j < a.length) :
    rd (moved n k z a) (i : Int) = rd (moved n k z a) (j : Int) ↔ rd a (i : Int) = rd a (j : Int) := by
  have ri := h.rd i hi
  have rj := h.rd j hj
  rw [moved_rd i hi, moved_rd j hj]
  constructor
  · intro e
    have e2 := rot_inj hk (Nat.xor_lt_two_pow (fine_bit h i hi) hz) (Nat.xor_lt_two_pow (fine_bit h j hj) hz) (by omega)
    have e3 : ((rd a (i : Int)).toNat ^^^ z) ^^^ z = ((rd a (j : Int)).toNat ^^^ z) ^^^ z := by rw [e2]
    rw [Nat.xor_assoc, Nat.xor_assoc, Nat.xor_self, Nat.xor_zero, Nat.xor_zero] at e3
    omega
  · intro e; rw [e]
theorem okFrom_congr {p q : Nat → Bool} {d j : Nat} (h : ∀ x, j ≤ x → x < j + d → p x = q x) : okFrom p d j = okFrom q d j := by
  rw [Bool.eq_iff_iff, okFrom_iff, okFrom_iff]
  constructor
  · intro h1 x a b; rw [← h x a b]; exact h1 x a b
  · intro h1 x a b; rw [h x a b]; exact h1 x a b
theorem moved_path (h : Fine n a) (hk : k < n) (hz : z < 2 ^ n) : pathB (moved n k z a) = pathB a := by
  rw [← path_ok, ← path_ok, moved_len]
  refine okFrom_congr (fun i _ hi => ?_)
  have e2 : newB (moved n k z a) i i 0 = newB a i i 0 := by
    unfold newB
    refine okFrom_congr (fun q _ hq => ?_)
    rw [decide_eq_decide]
    exact not_congr (moved_eq h hk hz q i (by omega) (by omega))
  unfold stepB
  rw [e2]
  by_cases h0 : i = 0
  · rw [decide_eq_true h0, Bool.true_or, Bool.true_or]
  · rw [decide_eq_false h0, Bool.false_or, Bool.false_or, moved_nx h hk hz (i - 1) i (by omega) (by omega)]
theorem moved_closed (h : Fine n a) (hk : k < n) (hz : z < 2 ^ n) : closedB (moved n k z a) = closedB a := by
  unfold closedB
  rw [moved_len]
  have hp := h.pos
  have := moved_nx h hk hz 0 (a.length - 1) hp (by omega)
  rw [show ((0 : Nat) : Int) = 0 from rfl] at this
  rw [this]
theorem moved_snake (h : Fine n a) (hk : k < n) (hz : z < 2 ^ n) (r : Bool) : snakeB (moved n k z a) r = snakeB a r := by
  unfold snakeB
  rw [moved_len]
  refine okFrom_congr (fun i _ hi => okFrom_congr (fun j _ hj => ?_))
  unfold pairOk
  rw [moved_len, moved_nx h hk hz i j (by omega) (by omega)]
theorem moved_tg (h : Fine n a) (hk : k < n) (hz : z < 2 ^ n) (i j : Nat) (hi : i < a.length) (hj : j < a.length) (hn : nx (rd a (i : Int)) (rd a (j : Int)) = true) :
    tg (moved n k z a) i j = (tg a i j + k) % n := by
  have hn2 := moved_nx h hk hz i j hi hj
  rw [hn] at hn2
  have h1 := (tg_two (moved_fine h hk hz) (by rw [moved_len]; exact hi) (by rw [moved_len]; exact hj) hn2).1
  have h2 := tg_two h hi hj hn
  rw [moved_xor h hk hz i j hi hj, h2.1, rot_pow hk h2.2.1] at h1
  exact ((Nat.pow_right_inj (by decide)).1 h1).symm
theorem shift_eq {t u : Nat} (ht : t < n) (hu : u < n) (hk : k < n) : (t + k) % n = (u + k) % n ↔ t = u := by
  constructor
  · intro e
    rcases Nat.lt_or_ge (t + k) n with h1 | h1 <;> rcases Nat.lt_or_ge (u + k) n with h2 | h2
    · rw [Nat.mod_eq_of_lt h1, Nat.mod_eq_of_lt h2] at e; omega
    · rw [Nat.mod_eq_of_lt h1, Nat.mod_eq_sub_mod h2, Nat.mod_eq_of_lt (by omega)] at e; omega
    · rw [Nat.mod_eq_of_lt h2, Nat.mod_eq_sub_mod h1, Nat.mod_eq_of_lt (by omega)] at e; omega
    · rw [Nat.mod_eq_sub_mod h1, Nat.mod_eq_sub_mod h2, Nat.mod_eq_of_lt (by omega), Nat.mod_eq_of_lt (by omega)] at e; omega
  · intro e; rw [e]
theorem moved_chg (h : Fine n a) (hk : k < n) (hz : z < 2 ^ n) (hp : pathB a = true) {t : Nat} (ht : t < n) : ∀ m, m + 1 ≤ a.length →
    rd (chg n (moved n k z a) m) (((t + k) % n : Nat) : Int) = rd (chg n a m) (t : Int) := by
  intro m
  induction m with
  | zero =>
    intro _
    unfold chg rd
    rw [Int.toNat_natCast, Int.toNat_natCast, List.getD_eq_getElem?_getD, List.getD_eq_getElem?_getD]
    have : (t + k) % n < n := Nat.mod_lt _ (by omega)
    simp [List.getElem?_replicate, ht, this]
  | succ m ih =>
    intro hm
    have hn := path_next hp (i := m) (by omega)
    have h2 := tg_two h (by omega) (by omega) hn
    have h3 := moved_tg h hk hz m (m + 1) (by omega) (by omega) hn
    have h4 : (tg a m (m + 1) + k) % n < n := Nat.mod_lt _ (by omega)
    rw [chg_succ, chg_succ, incr_rd _ _ _ (by rw [chg_len, h3]; exact h4), incr_rd _ _ _ (by rw [chg_len]; exact h2.2.1), ih (by omega), h3]
    have := shift_eq ht h2.2.1 hk
    by_cases e : t = tg a m (m + 1)
    · rw [if_pos (this.2 e), if_pos e]
    · rw [if_neg (fun e2 => e (this.1 e2)), if_neg e]
theorem moved_changes (h : Fine n a) (hk : k < n) (hz : z < 2 ^ n) (hp : pathB a = true) {t : Nat} (ht : t < n) :
    rd (changesL n (moved n k z a)) (((t + k) % n : Nat) : Int) = rd (changesL n a) (t : Int) := by
  have hpos := h.pos
  unfold changesL
  rw [moved_closed h hk hz, moved_len]
  cases hc : closedB a with
  | false => rw [if_neg (by decide), if_neg (by decide), moved_chg h hk hz hp ht _ (by omega)]
  | true =>
    obtain ⟨h4, hn⟩ := closed_nx hc
    have h2 := tg_two h (by omega) (by omega) hn
    have h3 := moved_tg h hk hz 0 (a.length - 1) (by omega) (by omega) hn
    have h4 : (tg a 0 (a.length - 1) + k) % n < n := Nat.mod_lt _ (by omega)
    rw [if_pos rfl, if_pos rfl, incr_rd _ _ _ (by rw [chg_len, h3]; exact h4), incr_rd _ _ _ (by rw [chg_len]; exact h2.2.1), moved_chg h hk hz hp ht _ (by omega), h3]
    have := shift_eq ht h2.2.1 hk
    by_cases e : t = tg a 0 (a.length - 1)
    · rw [if_pos (this.2 e), if_pos e]
    · rw [if_neg (fun e2 => e (this.1 e2)), if_neg e]
theorem moved_normal (h : Fine n a) (hk : k < n) (hz : z < 2 ^ n) : normalL n (moved n k z a) = normalL n a := by
  have hpos := h.pos
  refine normal_same h.n1 (fun t => (((t.toNat + k) % n : Nat) : Int)) ?_ a _ moved_len (fun i hi t ht => ?_)
  · have hnd : ((ups n).map fun t => (((t.toNat + k) % n : Nat) : Int)).Nodup := by
      unfold List.Nodup
      rw [List.pairwise_map]
      refine (ups_nodup n).imp_of_mem (fun {x y} hx hy hne e => hne ?_)
      have hx := ups_mem.1 hx
      have hy := ups_mem.1 hy
      have := (shift_eq (n := n) (k := k) (t := x.toNat) (u := y.toNat) (by omega) (by omega) hk).1 (by omega)
      omega
    refine (List.perm_ext_iff_of_nodup (ups_nodup n) hnd).2 (fun u => ?_)
    rw [List.mem_map, ups_mem]
    constructor
    · rintro ⟨h0, h1⟩
      obtain ⟨t, ht, e⟩ := rot_back hk (show u.toNat < n by omega)
      exact ⟨(t : Int), ups_mem.2 ⟨by omega, by omega⟩, by rw [Int.toNat_natCast, e]; omega⟩
    · rintro ⟨t, _, rfl⟩
      have : (t.toNat + k) % n < n := Nat.mod_lt _ (by omega)
      omega
  · have ht := ups_mem.1 ht
    rw [litB_bit, litB_bit]
    unfold xr
    rw [Int.toNat_natCast, Int.toNat_natCast, Int.toNat_natCast]
    have := moved_xor h hk hz i 0 hi hpos
    rw [show ((0 : Nat) : Int) = 0 from rfl] at this
    have hb0 := fine_bit h 0 hpos
    rw [show ((0 : Nat) : Int) = 0 from rfl] at hb0
    rw [this, rot_fwd hk (Nat.xor_lt_two_pow (fine_bit h i hi) hb0) (by omega)]
end
end Go.Proofs.Ytnakkdaeehglnaa.P

namespace Go.Proofs.Ytnakkdaeehglnaa.P
open Go.RowKit Go.Proofs.YtnakkdaeehglnaaW.PrintWords Go.Proofs.YtnakkdaeehglnaaW.PrintLast Go.Proofs.YtnakkdaeehglnaaW.PrintMore
attribute [local go_sem] max2_int min2_int max_two min_two max_three min_three max_four min_four   -- for this text's walks alone
set_option linter.unusedVariables false
set_option linter.unusedSimpArgs false

/-! ### flash_Grow: function 29 -/
def flash_Grow.f (k : Nat) (a0 : Int) (l1 : List Int) : Option (List Int × Int) := (flash_listed.f a0 l1).bind fun t255 => (if t255 = 0 then ((flash_path.f l1).bind fun t256 => (if t256 = true then ((flash_snake.f k l1 false).bind fun t257 => (if t257 = true then ((flash_grown.f a0 l1).bind fun t258 => (some (t258, 0))) else (some (([] : List Int), 5)))) else (some (([] : List Int), 5)))) else (some (([] : List Int), t255)))
theorem flash_Grow.mono : ∀ a0 a1 k, LeO (flash_Grow.f k a0 a1) (flash_Grow.f (k + 1) a0 a1) := by
  intro a0 a1 k
  unfold flash_Grow.f
  repeat' first
      | (with_reducible exact flash_snake.mono _ _ _)
      | (with_reducible exact LeO.refl _)
      | (with_reducible exact LeO.none _)
      | (with_reducible refine LeO.ite ?_ ?_)
      | (with_reducible refine LeO.bind ?_ (fun _ => ?_))
      | exact flash_snake.mono _ _ _
      | exact LeO.none _
      | refine LeO.ite ?_ ?_
      | refine LeO.bind ?_ (fun _ => ?_)
set_option maxHeartbeats 8000000 in
set_option maxRecDepth 100000 in
theorem flash_Grow.calls (k : Nat) (a0 : Int) (A1 : Option Addr) (c1 : Nat) (l1 : List Int) (r1 : List Int) (r2 : Int) (w : World) (hr1 : Kd.C (Kd.int .i64) w A1 l1.length l1) (hc1 : l1.length ≤ c1) (h : flash_Grow.f k a0 l1 = some (r1, r2)) :
    Calls Try.prog 29 #[.int .i64 a0, .slice A1 l1.length c1] w fun e w' => ∃ v0_ : Value, e = .returned (.tuple #[v0_, .int .i64 r2]) ∧ Kd.R (Kd.int .i64) 3 w' w.heap.size (fun _ => True) v0_ r1 ∧ Below w.heap.size w w' := by
  have HR1 := Aside0.mk hr1
  have HC1 := Aside0.mk hc1
  clear hr1 hc1
  have HB := Aside0.mk (Below.refl w.heap.size w)
  have H : ((flash_listed.f a0 l1).bind fun t255 => (if t255 = 0 then ((flash_path.f l1).bind fun t256 => (if t256 = true then ((flash_snake.f k l1 false).bind fun t257 => (if t257 = true then ((flash_grown.f a0 l1).bind fun t258 => (some (t258, 0))) else (some (([] : List Int), 5)))) else (some (([] : List Int), 5)))) else (some (([] : List Int), t255)))) = some (r1, r2) := h
  clear h
  replace H := Option.bind_eq_some_iff.mp H
  obtain ⟨t255, A30, H⟩ := H
  replace H : (if t255 = 0 then ((flash_path.f l1).bind fun t256 => (if t256 = true then ((flash_snake.f k l1 false).bind fun t257 => (if t257 = true then ((flash_grown.f a0 l1).bind fun t258 => (some (t258, 0))) else (some (([] : List Int), 5)))) else (some (([] : List Int), 5)))) else (some (([] : List Int), t255))) = some (r1, r2) := H
  have A3 := Aside0.mk A30
  clear A30
  by_cases c4 : t255 = 0
  · rw [if_pos c4] at H
    have c4b0 : (t255 == 0) = true := beq_iff_eq.mpr c4
    have c4b1 : (t255 != 0) = false := bne_eq_false_iff_eq.mpr c4
    clear c4
    replace H := Option.bind_eq_some_iff.mp H
    obtain ⟨t256, A50, H⟩ := H
    replace H : (if t256 = true then ((flash_snake.f k l1 false).bind fun t257 => (if t257 = true then ((flash_grown.f a0 l1).bind fun t258 => (some (t258, 0))) else (some (([] : List Int), 5)))) else (some (([] : List Int), 5))) = some (r1, r2) := H
    have A5 := Aside0.mk A50
    clear A50
    by_cases c6 : t256 = true
    · subst c6
      have H1 : ((flash_snake.f k l1 false).bind fun t257 => (if t257 = true then ((flash_grown.f a0 l1).bind fun t258 => (some (t258, 0))) else (some (([] : List Int), 5)))) = some (r1, r2) := by rw [if_pos rfl] at H; exact H
      clear H
      have H := H1
      clear H1
      replace H := Option.bind_eq_some_iff.mp H
      obtain ⟨t257, A70, H⟩ := H
      replace H : (if t257 = true then ((flash_grown.f a0 l1).bind fun t258 => (some (t258, 0))) else (some (([] : List Int), 5))) = some (r1, r2) := H
      have A7 := Aside0.mk A70
      clear A70
      by_cases c8 : t257 = true
      · subst c8
        have H1 : ((flash_grown.f a0 l1).bind fun t258 => (some (t258, 0))) = some (r1, r2) := by rw [if_pos rfl] at H; exact H
        clear H
        have H := H1
        clear H1
        replace H := Option.bind_eq_some_iff.mp H
        obtain ⟨t258, A90, H⟩ := H
        replace H : (some (t258, 0)) = some (r1, r2) := H
        have A9 := Aside0.mk A90
        clear A90
        simp only [Option.some.injEq, Prod.mk.injEq] at H
        obtain ⟨rfl, rfl⟩ := H
        go_enter Try.func29, Try.ntmps29
        go_wp2_with (first | ((with_reducible refine gate_callee (f := 50) rfl ?_); refine goesL_ (some 9) rfl rfl Try.func50 (by kernel_rfl) rfl #[.int .i64 a0, .slice A1 l1.length c1] rfl (by (try simp only [List.map_toArray, List.map_cons, List.map_nil]); first | done | rfl | (simp only [List.length_drop, List.length_take]; rfl)) ?_; (with_reducible refine (flash_listed.calls a0 _ _ l1 t255 _ ?side1 ?side2 A3.out).mono ?_); (case side1 => repeat (first | exact HR1.out | (with_reducible refine Kd.C_alloc ?_ _) | (with_reducible refine Kd.C_drewN ?_ _) | (with_reducible refine Kd.C_drew ?_))); (case side2 => exact HC1.out); rintro e w10 ⟨rfl, hb⟩; refine ⟨_, rfl, ?_⟩; have n0_ := Aside0.mk (below_step (by repeat (first | (with_reducible first | exact HB.out | apply below_alloc | apply pw_below_drewN | apply below_drew1) | exact HB.out)) hb); clear HB; have HB := n0_; clear n0_; (try clear hb); (try clear hb2); (try clear hk); (try clear hi)) | ((with_reducible refine gate_callee (f := 46) rfl ?_); refine goesL_ (some 14) rfl rfl Try.func46 (by kernel_rfl) rfl #[.slice A1 l1.length c1] rfl (by (try simp only [List.map_toArray, List.map_cons, List.map_nil]); first | done | rfl | (simp only [List.length_drop, List.length_take]; rfl)) ?_; (with_reducible refine (flash_path.calls _ _ l1 true _ ?side1 ?side2 A5.out).mono ?_); (case side1 => repeat (first | exact (Kd.C_below HR1.out HB.out) | (with_reducible refine Kd.C_alloc ?_ _) | (with_reducible refine Kd.C_drewN ?_ _) | (with_reducible refine Kd.C_drew ?_))); (case side2 => exact HC1.out); rintro e w11 ⟨rfl, hb⟩; refine ⟨_, rfl, ?_⟩; have n0_ := Aside0.mk (below_step (by repeat (first | (with_reducible first | exact HB.out | apply below_alloc | apply pw_below_drewN | apply below_drew1) | exact HB.out)) hb); clear HB; have HB := n0_; clear n0_; (try clear hb); (try clear hb2); (try clear hk); (try clear hi)) | (go_at_call 48; (with_reducible refine (flash_snake.calls k _ _ l1 false true _ ?side1 ?side2 A7.out).mono ?_); (case side1 => repeat (first | exact (Kd.C_below HR1.out HB.out) | (with_reducible refine Kd.C_alloc ?_ _) | (with_reducible refine Kd.C_drewN ?_ _) | (with_reducible refine Kd.C_drew ?_))); (case side2 => exact HC1.out); rintro e w' ⟨rfl, ⟨nd, rfl⟩⟩) | ((with_reducible refine gate_callee (f := 53) rfl ?_); refine goesL_ (some 23) rfl rfl Try.func53 (by kernel_rfl) rfl #[.int .i64 a0, .slice A1 l1.length c1] rfl (by (try simp only [List.map_toArray, List.map_cons, List.map_nil]); first | done | rfl | (simp only [List.length_drop, List.length_take]; rfl)) ?_; (with_reducible refine (flash_grown.calls a0 _ _ l1 t258 _ ?side1 ?side2 A9.out).mono ?_); (case side1 => repeat (first | exact (Kd.C_below HR1.out (by repeat (first | (with_reducible first | exact HB.out | apply below_alloc | apply pw_below_drewN | apply below_drew1) | exact HB.out))) | (with_reducible refine Kd.C_alloc ?_ _) | (with_reducible refine Kd.C_drewN ?_ _) | (with_reducible refine Kd.C_drew ?_))); (case side2 => exact HC1.out); rintro e w12 ⟨v259, rfl, ho0, hb⟩; refine ⟨_, rfl, ?_⟩; have n0_ := Aside0.mk (Kd.R_lower ho0 (below_size (by repeat (first | (with_reducible first | exact HB.out | apply below_alloc | apply pw_below_drewN | apply below_drew1) | exact HB.out)))); have n1_ := Aside0.mk (below_step (by repeat (first | (with_reducible first | exact HB.out | apply below_alloc | apply pw_below_drewN | apply below_drew1) | exact HB.out)) hb); clear HB; have HO260 := n0_; have HB := n1_; clear n0_ n1_; (try clear hb); (try clear hb2); (try clear hk); (try clear hi); (try clear ho0)))
        go_ret2
        exact ⟨_, by first | rfl | (simp [errW_none, errW_some] <;> rfl) | (simp [*, errW_none, errW_some] <;> rfl), by (with_reducible repeat (first | apply Kd.R_alloc | apply Kd.R_drewN | apply Kd.R_drew)); exact HO260.out, by repeat (first | (with_reducible first | exact HB.out | apply below_alloc | apply pw_below_drewN | apply below_drew1) | exact HB.out)⟩
      · replace c8 := Bool.eq_false_iff.mpr c8
        subst c8
        have H1 : (some (([] : List Int), 5)) = some (r1, r2) := by rw [if_neg (show ¬ (false = true) by decide)] at H; exact H
        clear H
        have H := H1
        clear H1
        simp only [Option.some.injEq, Prod.mk.injEq] at H
        obtain ⟨rfl, rfl⟩ := H
        go_enter Try.func29, Try.ntmps29
        go_wp2_with (first | ((with_reducible refine gate_callee (f := 50) rfl ?_); refine goesL_ (some 9) rfl rfl Try.func50 (by kernel_rfl) rfl #[.int .i64 a0, .slice A1 l1.length c1] rfl (by (try simp only [List.map_toArray, List.map_cons, List.map_nil]); first | done | rfl | (simp only [List.length_drop, List.length_take]; rfl)) ?_; (with_reducible refine (flash_listed.calls a0 _ _ l1 t255 _ ?side1 ?side2 A3.out).mono ?_); (case side1 => repeat (first | exact HR1.out | (with_reducible refine Kd.C_alloc ?_ _) | (with_reducible refine Kd.C_drewN ?_ _) | (with_reducible refine Kd.C_drew ?_))); (case side2 => exact HC1.out); rintro e w13 ⟨rfl, hb⟩; refine ⟨_, rfl, ?_⟩; have n0_ := Aside0.mk (below_step (by repeat (first | (with_reducible first | exact HB.out | apply below_alloc | apply pw_below_drewN | apply below_drew1) | exact HB.out)) hb); clear HB; have HB := n0_; clear n0_; (try clear hb); (try clear hb2); (try clear hk); (try clear hi)) | ((with_reducible refine gate_callee (f := 46) rfl ?_); refine goesL_ (some 14) rfl rfl Try.func46 (by kernel_rfl) rfl #[.slice A1 l1.length c1] rfl (by (try simp only [List.map_toArray, List.map_cons, List.map_nil]); first | done | rfl | (simp only [List.length_drop, List.length_take]; rfl)) ?_; (with_reducible refine (flash_path.calls _ _ l1 true _ ?side1 ?side2 A5.out).mono ?_); (case side1 => repeat (first | exact (Kd.C_below HR1.out HB.out) | (with_reducible refine Kd.C_alloc ?_ _) | (with_reducible refine Kd.C_drewN ?_ _) | (with_reducible refine Kd.C_drew ?_))); (case side2 => exact HC1.out); rintro e w14 ⟨rfl, hb⟩; refine ⟨_, rfl, ?_⟩; have n0_ := Aside0.mk (below_step (by repeat (first | (with_reducible first | exact HB.out | apply below_alloc | apply pw_below_drewN | apply below_drew1) | exact HB.out)) hb); clear HB; have HB := n0_; clear n0_; (try clear hb); (try clear hb2); (try clear hk); (try clear hi)) | (go_at_call 48; (with_reducible refine (flash_snake.calls k _ _ l1 false false _ ?side1 ?side2 A7.out).mono ?_); (case side1 => repeat (first | exact (Kd.C_below HR1.out HB.out) | (with_reducible refine Kd.C_alloc ?_ _) | (with_reducible refine Kd.C_drewN ?_ _) | (with_reducible refine Kd.C_drew ?_))); (case side2 => exact HC1.out); rintro e w' ⟨rfl, ⟨nd, rfl⟩⟩))
        go_ret2
        exact ⟨_, by first | rfl | (simp [errW_none, errW_some] <;> rfl) | (simp [*, errW_none, errW_some] <;> rfl), by first | exact Kd.R_nil _ _ _ _ _ | exact Kd.N_nil _ _ _ _ _ | exact Kd.V_nil _ _ _ _ _ | exact Kd.Q_nil _ _ _ _ _ | exact Kd.S_nil _ _ _ _ _, by repeat (first | (with_reducible first | exact HB.out | apply below_alloc | apply pw_below_drewN | apply below_drew1) | exact HB.out)⟩
    · replace c6 := Bool.eq_false_iff.mpr c6
      subst c6
      have H1 : (some (([] : List Int), 5)) = some (r1, r2) := by rw [if_neg (show ¬ (false = true) by decide)] at H; exact H
      clear H
      have H := H1
      clear H1
      simp only [Option.some.injEq, Prod.mk.injEq] at H
      obtain ⟨rfl, rfl⟩ := H
      go_enter Try.func29, Try.ntmps29
      go_wp2_with (first | ((with_reducible refine gate_callee (f := 50) rfl ?_); refine goesL_ (some 9) rfl rfl Try.func50 (by kernel_rfl) rfl #[.int .i64 a0, .slice A1 l1.length c1] rfl (by (try simp only [List.map_toArray, List.map_cons, List.map_nil]); first | done | rfl | (simp only [List.length_drop, List.length_take]; rfl)) ?_; (with_reducible refine (flash_listed.calls a0 _ _ l1 t255 _ ?side1 ?side2 A3.out).mono ?_); (case side1 => repeat (first | exact HR1.out | (with_reducible refine Kd.C_alloc ?_ _) | (with_reducible refine Kd.C_drewN ?_ _) | (with_reducible refine Kd.C_drew ?_))); (case side2 => exact HC1.out); rintro e w15 ⟨rfl, hb⟩; refine ⟨_, rfl, ?_⟩; have n0_ := Aside0.mk (below_step (by repeat (first | (with_reducible first | exact HB.out | apply below_alloc | apply pw_below_drewN | apply below_drew1) | exact HB.out)) hb); clear HB; have HB := n0_; clear n0_; (try clear hb); (try clear hb2); (try clear hk); (try clear hi)) | ((with_reducible refine gate_callee (f := 46) rfl ?_); refine goesL_ (some 14) rfl rfl Try.func46 (by kernel_rfl) rfl #[.slice A1 l1.length c1] rfl (by (try simp only [List.map_toArray, List.map_cons, List.map_nil]); first | done | rfl | (simp only [List.length_drop, List.length_take]; rfl)) ?_; (with_reducible refine (flash_path.calls _ _ l1 false _ ?side1 ?side2 A5.out).mono ?_); (case side1 => repeat (first | exact (Kd.C_below HR1.out HB.out) | (with_reducible refine Kd.C_alloc ?_ _) | (with_reducible refine Kd.C_drewN ?_ _) | (with_reducible refine Kd.C_drew ?_))); (case side2 => exact HC1.out); rintro e w16 ⟨rfl, hb⟩; refine ⟨_, rfl, ?_⟩; have n0_ := Aside0.mk (below_step (by repeat (first | (with_reducible first | exact HB.out | apply below_alloc | apply pw_below_drewN | apply below_drew1) | exact HB.out)) hb); clear HB; have HB := n0_; clear n0_; (try clear hb); (try clear hb2); (try clear hk); (try clear hi)))
      go_ret2
      exact ⟨_, by first | rfl | (simp [errW_none, errW_some] <;> rfl) | (simp [*, errW_none, errW_some] <;> rfl), by first | exact Kd.R_nil _ _ _ _ _ | exact Kd.N_nil _ _ _ _ _ | exact Kd.V_nil _ _ _ _ _ | exact Kd.Q_nil _ _ _ _ _ | exact Kd.S_nil _ _ _ _ _, by repeat (first | (with_reducible first | exact HB.out | apply below_alloc | apply pw_below_drewN | apply below_drew1) | exact HB.out)⟩
  · rw [if_neg c4] at H
    have c4b0 : (t255 == 0) = false := beq_eq_false_iff_ne.mpr c4
    have c4b1 : (t255 != 0) = true := bne_iff_ne.mpr c4
    simp only [Option.some.injEq, Prod.mk.injEq] at H
    obtain ⟨rfl, rfl⟩ := H
    go_enter Try.func29, Try.ntmps29
    go_wp2_with (first | ((with_reducible refine gate_callee (f := 50) rfl ?_); refine goesL_ (some 9) rfl rfl Try.func50 (by kernel_rfl) rfl #[.int .i64 a0, .slice A1 l1.length c1] rfl (by (try simp only [List.map_toArray, List.map_cons, List.map_nil]); first | done | rfl | (simp only [List.length_drop, List.length_take]; rfl)) ?_; (with_reducible refine (flash_listed.calls a0 _ _ l1 t255 _ ?side1 ?side2 A3.out).mono ?_); (case side1 => repeat (first | exact HR1.out | (with_reducible refine Kd.C_alloc ?_ _) | (with_reducible refine Kd.C_drewN ?_ _) | (with_reducible refine Kd.C_drew ?_))); (case side2 => exact HC1.out); rintro e w17 ⟨rfl, hb⟩; refine ⟨_, rfl, ?_⟩; have n0_ := Aside0.mk (below_step (by repeat (first | (with_reducible first | exact HB.out | apply below_alloc | apply pw_below_drewN | apply below_drew1) | exact HB.out)) hb); clear HB; have HB := n0_; clear n0_; (try clear hb); (try clear hb2); (try clear hk); (try clear hi)))
    go_ret2
    exact ⟨_, by first | rfl | (simp [errW_none, errW_some] <;> rfl) | (simp [*, errW_none, errW_some] <;> rfl), by first | exact Kd.R_nil _ _ _ _ _ | exact Kd.N_nil _ _ _ _ _ | exact Kd.V_nil _ _ _ _ _ | exact Kd.Q_nil _ _ _ _ _ | exact Kd.S_nil _ _ _ _ _, by repeat (first | (with_reducible first | exact HB.out | apply below_alloc | apply pw_below_drewN | apply below_drew1) | exact HB.out)⟩

end Go.Proofs.Ytnakkdaeehglnaa.P

namespace Go.Proofs.Ytnakkdaeehglnaa.P
open Go.RowKit Go.Proofs.YtnakkdaeehglnaaW.PrintWords Go.Proofs.YtnakkdaeehglnaaW.PrintLast Go.Proofs.YtnakkdaeehglnaaW.PrintMore
attribute [local go_sem] max2_int min2_int max_two min_two max_three min_three max_four min_four   -- for this text's walks alone
set_option linter.unusedVariables false
set_option linter.unusedSimpArgs false

/-! ### neonwrightref04_Grow: function 30 -/
mutual
def neonwrightref04_Grow.l0 : Nat → Int → List Int → List Int → Int → Option (List Int × Int)
  | 0, _, _, _, _ => none
  | k + 1, x0, x1, x9, x10 => if 0 ≤ x0 then (if x10 < (shl .i64 1 x0) then (if 0 ≤ (wrap64 ((x1.length : Int) - 1)) then (if (wrap64 ((x1.length : Int) - 1)) < (x1.length : Int) then ((neonwrightref04_near.f x10 (rd x1 (wrap64 ((x1.length : Int) - 1)))).bind fun t265 => (neonwrightref04_Grow.l1 k x0 x1 x9 x10 t265 0)) else (none)) else (none)) else (some (x9, 0))) else (none)
def neonwrightref04_Grow.l1 : Nat → Int → List Int → List Int → Int → Bool → Int → Option (List Int × Int)
  | 0, _, _, _, _, _, _ => none
  | k + 1, x0, x1, x9, x10, x11, x12 => if x12 < (wrap64 ((x1.length : Int) - 1)) then (if x11 = true then (if 0 ≤ x12 then (if x12 < (x1.length : Int) then (if x10 = (rd x1 x12) then (neonwrightref04_Grow.l1 k x0 x1 x9 x10 false (wrap64 (x12 + 1))) else ((neonwrightref04_near.f x10 (rd x1 x12)).bind fun t268 => (neonwrightref04_Grow.l1 k x0 x1 x9 x10 (!t268) (wrap64 (x12 + 1))))) else (none)) else (none)) else (neonwrightref04_Grow.l0 k x0 x1 x9 (wrap64 (x10 + 1)))) else (if x11 = true then (if x9.length < 17592186044416 then (neonwrightref04_Grow.l0 k x0 x1 (x9 ++ [x10]) (wrap64 (x10 + 1))) else (none)) else (neonwrightref04_Grow.l0 k x0 x1 x9 (wrap64 (x10 + 1))))
end
def neonwrightref04_Grow.f (k : Nat) (a0 : Int) (l1 : List Int) : Option (List Int × Int) := (neonwrightref04_States.f k a0 l1).bind fun t261 => (if t261 = 0 then ((neonwrightref04_snake.f k l1).bind fun bt262 => (if bt262.1 = true then (neonwrightref04_Grow.l0 k a0 l1 ([] : List Int) 0) else (some (([] : List Int), 5)))) else (some (([] : List Int), t261)))
theorem neonwrightref04_Grow.mono_l : ∀ k, (∀ y0 y1 y2 y3, LeO (neonwrightref04_Grow.l0 k y0 y1 y2 y3) (neonwrightref04_Grow.l0 (k + 1) y0 y1 y2 y3)) ∧ (∀ y0 y1 y2 y3 y4 y5, LeO (neonwrightref04_Grow.l1 k y0 y1 y2 y3 y4 y5) (neonwrightref04_Grow.l1 (k + 1) y0 y1 y2 y3 y4 y5))
  | 0 => ⟨fun _ _ _ _ r h => by simp [neonwrightref04_Grow.l0] at h, fun _ _ _ _ _ _ r h => by simp [neonwrightref04_Grow.l1] at h⟩
  | k + 1 => by
    obtain ⟨ih0, ih1⟩ := neonwrightref04_Grow.mono_l k
    refine ⟨?_, ?_⟩
    · intro y0 y1 y2 y3
      unfold neonwrightref04_Grow.l0
      repeat' first
      | (with_reducible exact ih0 _ _ _ _)
      | (with_reducible exact ih1 _ _ _ _ _ _)
      | (with_reducible exact neonwrightref04_States.mono _ _ _)
      | (with_reducible exact neonwrightref04_snake.mono _ _)
      | (with_reducible exact LeO.refl _)
      | (with_reducible exact LeO.none _)
      | (with_reducible refine LeO.ite ?_ ?_)
      | (with_reducible refine LeO.bind ?_ (fun _ => ?_))
      | exact ih0 _ _ _ _
      | exact ih1 _ _ _ _ _ _
      | exact neonwrightref04_States.mono _ _ _
      | exact neonwrightref04_snake.mono _ _
      | exact LeO.none _
      | refine LeO.ite ?_ ?_
      | refine LeO.bind ?_ (fun _ => ?_)
    · intro y0 y1 y2 y3 y4 y5
      unfold neonwrightref04_Grow.l1
      repeat' first
      | (with_reducible exact ih0 _ _ _ _)
      | (with_reducible exact ih1 _ _ _ _ _ _)
      | (with_reducible exact neonwrightref04_States.mono _ _ _)
      | (with_reducible exact neonwrightref04_snake.mono _ _)
      | (with_reducible exact LeO.refl _)
      | (with_reducible exact LeO.none _)
      | (with_reducible refine LeO.ite ?_ ?_)
      | (with_reducible refine LeO.bind ?_ (fun _ => ?_))
      | exact ih0 _ _ _ _
      | exact ih1 _ _ _ _ _ _
      | exact neonwrightref04_States.mono _ _ _
      | exact neonwrightref04_snake.mono _ _
      | exact LeO.none _
      | refine LeO.ite ?_ ?_
      | refine LeO.bind ?_ (fun _ => ?_)
theorem neonwrightref04_Grow.mono : ∀ a0 a1 k, LeO (neonwrightref04_Grow.f k a0 a1) (neonwrightref04_Grow.f (k + 1) a0 a1) := by
  intro a0 a1 k
  obtain ⟨ih0, ih1⟩ := neonwrightref04_Grow.mono_l k
  unfold neonwrightref04_Grow.f
  repeat' first
      | (with_reducible exact ih0 _ _ _ _)
      | (with_reducible exact ih1 _ _ _ _ _ _)
      | (with_reducible exact neonwrightref04_States.mono _ _ _)
      | (with_reducible exact neonwrightref04_snake.mono _ _)
      | (with_reducible exact LeO.refl _)
      | (with_reducible exact LeO.none _)
      | (with_reducible refine LeO.ite ?_ ?_)
      | (with_reducible refine LeO.bind ?_ (fun _ => ?_))
      | exact ih0 _ _ _ _
      | exact ih1 _ _ _ _ _ _
      | exact neonwrightref04_States.mono _ _ _
      | exact neonwrightref04_snake.mono _ _
      | exact LeO.none _
      | refine LeO.ite ?_ ?_
      | refine LeO.bind ?_ (fun _ => ?_)
set_option maxHeartbeats 8000000 in
set_option maxRecDepth 100000 in
theorem neonwrightref04_Grow.calls (k : Nat) (a0 : Int) (A1 : Option Addr) (c1 : Nat) (l1 : List Int) (r1 : List Int) (r2 : Int) (w : World) (hr1 : Kd.C (Kd.int .i64) w A1 l1.length l1) (hc1 : l1.length ≤ c1) (h : neonwrightref04_Grow.f k a0 l1 = some (r1, r2)) :
    Calls Try.prog 30 #[.int .i64 a0, .slice A1 l1.length c1] w fun e w' => ∃ v0_ : Value, e = .returned (.tuple #[v0_, .int .i64 r2]) ∧ Kd.R (Kd.int .i64) 3 w' w.heap.size (fun _ => True) v0_ r1 ∧ Below w.heap.size w w' := by
  have HR1 := Aside0.mk hr1
  have HC1 := Aside0.mk hc1
  clear hr1 hc1
  have HB := Aside0.mk (Below.refl w.heap.size w)
  have H : ((neonwrightref04_States.f k a0 l1).bind fun t261 => (if t261 = 0 then ((neonwrightref04_snake.f k l1).bind fun bt262 => (if bt262.1 = true then (neonwrightref04_Grow.l0 k a0 l1 ([] : List Int) 0) else (some (([] : List Int), 5)))) else (some (([] : List Int), t261)))) = some (r1, r2) := h
  clear h
  replace H := Option.bind_eq_some_iff.mp H
  obtain ⟨t261, A30, H⟩ := H
  replace H : (if t261 = 0 then ((neonwrightref04_snake.f k l1).bind fun bt262 => (if bt262.1 = true then (neonwrightref04_Grow.l0 k a0 l1 ([] : List Int) 0) else (some (([] : List Int), 5)))) else (some (([] : List Int), t261))) = some (r1, r2) := H
  have A3 := Aside0.mk A30
  clear A30
  by_cases c4 : t261 = 0
  · rw [if_pos c4] at H
    have c4b0 : (t261 == 0) = true := beq_iff_eq.mpr c4
    have c4b1 : (t261 != 0) = false := bne_eq_false_iff_eq.mpr c4
    clear c4
    replace H := Option.bind_eq_some_iff.mp H
    obtain ⟨⟨t262, t263⟩, A50, H⟩ := H
    replace H : (if t262 = true then (neonwrightref04_Grow.l0 k a0 l1 ([] : List Int) 0) else (some (([] : List Int), 5))) = some (r1, r2) := H
    have A5 := Aside0.mk A50
    clear A50
    by_cases c6 : t262 = true
    · subst c6
      have H1 : (neonwrightref04_Grow.l0 k a0 l1 ([] : List Int) 0) = some (r1, r2) := by rw [if_pos rfl] at H; exact H
      clear H
      have H := H1
      clear H1
      have H' := Aside0.mk H
      clear H
      go_enter Try.func30, Try.ntmps30
      go_wp2_with (first | ((with_reducible refine gate_callee (f := 51) rfl ?_); refine goesL_ (some 15) rfl rfl Try.func51 (by kernel_rfl) rfl #[.int .i64 a0, .slice A1 l1.length c1] rfl (by (try simp only [List.map_toArray, List.map_cons, List.map_nil]); first | done | rfl | (simp only [List.length_drop, List.length_take]; rfl)) ?_; (with_reducible refine (neonwrightref04_States.calls k a0 _ _ l1 t261 _ ?side1 ?side2 A3.out).mono ?_); (case side1 => repeat (first | exact HR1.out | (with_reducible refine Kd.C_alloc ?_ _) | (with_reducible refine Kd.C_drewN ?_ _) | (with_reducible refine Kd.C_drew ?_))); (case side2 => exact HC1.out); rintro e w' ⟨rfl, ⟨nd, rfl⟩⟩; refine ⟨_, rfl, ?_⟩) | ((with_reducible refine gate_callee (f := 52) rfl ?_); refine goesL_ (some 21) rfl rfl Try.func52 (by kernel_rfl) rfl #[.slice A1 l1.length c1] rfl (by (try simp only [List.map_toArray, List.map_cons, List.map_nil]); first | done | rfl | (simp only [List.length_drop, List.length_take]; rfl)) ?_; (with_reducible refine (neonwrightref04_snake.calls k _ _ l1 true t263 _ ?side1 ?side2 A5.out).mono ?_); (case side1 => repeat (first | exact HR1.out | (with_reducible refine Kd.C_alloc ?_ _) | (with_reducible refine Kd.C_drewN ?_ _) | (with_reducible refine Kd.C_drew ?_))); (case side2 => exact HC1.out); rintro e w' ⟨rfl, ⟨nd, rfl⟩⟩; refine ⟨_, rfl, ?_⟩))
      go_loopg [9, 10] k (fun kq v9 v10 w' => ∃ (x9_1 : List Int) (x10_1 : Int), v10 = .int .i64 x10_1 ∧ Aside0 (neonwrightref04_Grow.l0 kq a0 l1 x9_1 x10_1 = some (r1, r2)) ∧ Aside0 (kq ≤ k) ∧ Aside0 (Kd.R (Kd.int .i64) 3 w' w.heap.size (fun _ => True) v9 x9_1) ∧ Aside0 (Below w.heap.size w w'))
      case atStart => exact ⟨(([] : List Int)), (0), (by first | rfl | (simp; done) | (simp [*]; done)), H', ⟨Nat.le_refl _⟩, ⟨by first | exact Kd.R_nil _ _ _ _ _ | exact Kd.N_nil _ _ _ _ _ | exact Kd.V_nil _ _ _ _ _ | exact Kd.Q_nil _ _ _ _ _ | exact Kd.S_nil _ _ _ _ _⟩, ⟨by repeat (first | (with_reducible first | exact HB.out | apply below_alloc | apply pw_below_drewN | apply below_drew1) | exact HB.out)⟩⟩
      case round =>
        clear H'
        try clear c1
        try clear p2
        try clear c3
        try clear c4
        try clear c4b0
        try clear c4b1
        try clear c5
        try clear c6
        obtain ⟨x9_1, x10_1, rfl, HA, HK1, HO_9, HB⟩ := hrel
        cases gk with
        | zero => exact absurd HA.out (by simp [neonwrightref04_Grow.l0])
        | succ k1 =>
          have H := HA.out
          clear HA
          simp only [neonwrightref04_Grow.l0] at H
          by_cases c7 : 0 ≤ a0
          · rw [if_pos c7] at H
            have c7b0 := eq_true c7
            have c7b1 : decide (0 ≤ a0) = true := decide_eq_true c7
            clear c7
            obtain ⟨ji8, hji8⟩ : ∃ j_ : Int, (shl .i64 1 a0) = j_ := ⟨_, rfl⟩
            replace H : (if x10_1 < (ji8) then (if 0 ≤ (wrap64 ((l1.length : Int) - 1)) then (if (wrap64 ((l1.length : Int) - 1)) < (l1.length : Int) then ((neonwrightref04_near.f x10_1 (rd l1 (wrap64 ((l1.length : Int) - 1)))).bind fun t265 => (neonwrightref04_Grow.l1 k1 a0 l1 x9_1 x10_1 t265 0)) else (none)) else (none)) else (some (x9_1, 0))) = some (r1, r2) := by first | (rw [hji8] at H; exact H) | (simp only [hji8] at H ⊢; exact H)
            have hji8_ : (IntKind.i64.wrap (1 * 2 ^ min a0.toNat 64)) = ji8 := hji8
            have hji8z : a0 ≤ 64 → (IntKind.i64.wrap (1 * 2 ^ a0.toNat)) = ji8 := shl_small hji8
            have hji8u : (IntKind.i64.wrap (2 ^ min a0.toNat 64)) = ji8 := by have h_ := hji8_; rw [Int.one_mul] at h_; exact h_
            have hji8v : a0 ≤ 64 → (IntKind.i64.wrap (2 ^ a0.toNat)) = ji8 := fun hle_ => by have h_ := hji8z hle_; rw [Int.one_mul] at h_; exact h_
            have hji8y : (wrap64 (1 * 2 ^ min a0.toNat 64)) = ji8 := (i64_w _).symm.trans hji8_
            have hji8x : a0 ≤ 64 → (wrap64 (1 * 2 ^ a0.toNat)) = ji8 := fun h_ => (i64_w _).symm.trans (hji8z h_)
            by_cases c9 : x10_1 < (ji8)
            · rw [if_pos c9] at H
              have c9b0 : decide (x10_1 < (ji8)) = true := decide_eq_true c9
              clear c9
              obtain ⟨ji10, hji10⟩ : ∃ j_ : Int, (wrap64 ((l1.length : Int) - 1)) = j_ := ⟨_, rfl⟩
              replace H : (if 0 ≤ (ji10) then (if (ji10) < (l1.length : Int) then ((neonwrightref04_near.f x10_1 (rd l1 (ji10))).bind fun t265 => (neonwrightref04_Grow.l1 k1 a0 l1 x9_1 x10_1 t265 0)) else (none)) else (none)) = some (r1, r2) := by first | (rw [hji10] at H; exact H) | (simp only [hji10] at H ⊢; exact H)
              have hji10w : (IntKind.i64.wrap ((l1.length : Int) - 1)) = ji10 := (i64_w _).trans hji10
              by_cases c11 : 0 ≤ (ji10)
              · rw [if_pos c11] at H
                have c11b0 : decide (0 ≤ (ji10)) = true := decide_eq_true c11
                clear c11
                by_cases c12 : (ji10) < (l1.length : Int)
                · rw [if_pos c12] at H
                  have c12b0 : decide ((ji10) < (l1.length : Int)) = true := decide_eq_true c12
                  clear c12
                  replace H := Option.bind_eq_some_iff.mp H
                  obtain ⟨t265, A130, H⟩ := H
                  replace H : (neonwrightref04_Grow.l1 k1 a0 l1 x9_1 x10_1 t265 0) = some (r1, r2) := H
                  have A13 := Aside0.mk A130
                  clear A130
                  have H' := Aside0.mk H
                  clear H
                  have p264 : 0 ≤ ((ji10) : Int) := of_decide_eq_true (by first | (with_reducible assumption) | assumption)
                  have q264 : (ji10) < (l1.length : Int) := of_decide_eq_true (by first | (with_reducible assumption) | assumption)
                  obtain ⟨ad264, e264, hx264_0⟩ := Kd.at_int HR1.out (ji10) p264 q264
                  cases e264
                  replace hx264_0 := (HB.out.cell (World.block_lt_of_cell? w _ hx264_0)).trans hx264_0
                  replace p264 := eq_true p264
                  replace q264 := eq_true q264
                  go_wp2_with (first | ((with_reducible refine gate_callee (f := 54) rfl ?_); refine goesL_ (some 39) rfl rfl Try.func54 (by kernel_rfl) rfl #[.int .i64 x10_1, .int .i64 (rd l1 (ji10))] rfl (by (try simp only [List.map_toArray, List.map_cons, List.map_nil]); first | done | (simp only [hji10]; rfl) | rfl | (simp only [List.length_drop, List.length_take]; rfl)) ?_; (with_reducible refine (neonwrightref04_near.calls x10_1 (rd l1 (ji10)) t265 _ A13.out).mono ?_); rintro e w' ⟨rfl, ⟨nd, rfl⟩⟩; refine ⟨_, rfl, ?_⟩))
                  go_loopg [11, 12] k1 (fun kq v11 v12 w' => ∃ (x11_2 : Bool) (x12_2 : Int), v11 = .bool x11_2 ∧ v12 = .int .i64 x12_2 ∧ Aside0 (neonwrightref04_Grow.l1 kq a0 l1 x9_1 x10_1 x11_2 x12_2 = some (r1, r2)) ∧ Aside0 (kq ≤ k1) ∧ Aside0 (Kd.R (Kd.int .i64) 3 w' w.heap.size (fun _ => True) u9 x9_1) ∧ Aside0 (Below w.heap.size w w'))
                  case atStart => exact ⟨(t265), (0), (by first | rfl | (simp; done) | (simp [*]; done)), (by first | rfl | (simp; done) | (simp [*]; done)), H', ⟨Nat.le_refl _⟩, ⟨by (with_reducible repeat (first | apply Kd.R_alloc | apply Kd.R_drewN | apply Kd.R_drew)); first | exact HO_9.out | exact Kd.R_mono HO_9.out (fun k_ h_ => ne_own_len h_)⟩, ⟨by repeat (first | (with_reducible first | exact HB.out | apply below_alloc | apply pw_below_drewN | apply below_drew1) | exact HB.out)⟩⟩
                  case round =>
                    clear H'
                    try clear c1
                    try clear p2
                    try clear q2
                    try clear hx2
                    try clear c3
                    try clear c4
                    try clear c4b0
                    try clear c4b1
                    try clear c5
                    try clear c6
                    try clear p6
                    try clear c7
                    try clear c7b0
                    try clear c7b1
                    try clear c9
                    try clear c9b0
                    try clear c11
                    try clear c11b0
                    try clear c12
                    try clear c12b0
                    try clear hx264_0
                    try clear p2
                    try clear p264
                    try clear q264
                    obtain ⟨x11_2, x12_2, rfl, rfl, HA, HK2, HO_9, HB⟩ := hrel
                    cases gk with
                    | zero => exact absurd HA.out (by simp [neonwrightref04_Grow.l1])
                    | succ k2 =>
                      have H := HA.out
                      clear HA
                      simp only [neonwrightref04_Grow.l1] at H
                      by_cases c14 : x12_2 < (wrap64 ((l1.length : Int) - 1))
                      · rw [if_pos c14] at H
                        have c14b0 : decide (x12_2 < (wrap64 ((l1.length : Int) - 1))) = true := decide_eq_true c14
                        (try (have c14b0m1 : decide (x12_2 < (ji10)) = true := by rw [← hji10]; exact c14b0))
                        clear c14
                        by_cases c15 : x11_2 = true
                        · subst c15
                          have H1 : (if 0 ≤ x12_2 then (if x12_2 < (l1.length : Int) then (if x10_1 = (rd l1 x12_2) then (neonwrightref04_Grow.l1 k2 a0 l1 x9_1 x10_1 false (wrap64 (x12_2 + 1))) else ((neonwrightref04_near.f x10_1 (rd l1 x12_2)).bind fun t268 => (neonwrightref04_Grow.l1 k2 a0 l1 x9_1 x10_1 (!t268) (wrap64 (x12_2 + 1))))) else (none)) else (none)) = some (r1, r2) := by rw [if_pos rfl] at H; exact H
                          clear H
                          have H := H1
                          clear H1
                          by_cases c16 : 0 ≤ x12_2
                          · rw [if_pos c16] at H
                            have c16b0 : decide (0 ≤ x12_2) = true := decide_eq_true c16
                            clear c16
                            by_cases c17 : x12_2 < (l1.length : Int)
                            · rw [if_pos c17] at H
                              have c17b0 : decide (x12_2 < (l1.length : Int)) = true := decide_eq_true c17
                              clear c17
                              by_cases c18 : x10_1 = (rd l1 x12_2)
                              · rw [if_pos c18] at H
                                have c18b0 : (x10_1 == (rd l1 x12_2)) = true := beq_iff_eq.mpr c18
                                have c18b1 : (x10_1 != (rd l1 x12_2)) = false := bne_eq_false_iff_eq.mpr c18
                                clear c18
                                have H' := Aside0.mk H
                                clear H
                                have p266 : 0 ≤ (x12_2 : Int) := of_decide_eq_true (by first | (with_reducible assumption) | assumption)
                                have q266 : x12_2 < (l1.length : Int) := of_decide_eq_true (by first | (with_reducible assumption) | assumption)
                                obtain ⟨ad266, e266, hx266_0⟩ := Kd.at_int HR1.out x12_2 p266 q266
                                obtain rfl : ad264 = ad266 := (by injection e266)
                                replace hx266_0 := (HB.out.cell (World.block_lt_of_cell? w _ hx266_0)).trans hx266_0
                                replace p266 := eq_true p266
                                replace q266 := eq_true q266
                                go_wp2
                                go_roundg k2
                                case measure => have := HK1.out; have := HK2.out; omega
                                case rel => exact ⟨(false), (wrap64 (x12_2 + 1)), (by first | rfl | (simp; done) | (simp [*]; done)), (by first | rfl | (simp; done) | (simp [*]; done)), H', ⟨by have := HK1.out; have := HK2.out; omega⟩, ⟨by (with_reducible repeat (first | apply Kd.R_alloc | apply Kd.R_drewN | apply Kd.R_drew)); first | exact HO_9.out | exact Kd.R_mono HO_9.out (fun k_ h_ => ne_own_len h_)⟩, ⟨by repeat (first | (with_reducible first | exact HB.out | apply below_alloc | apply pw_below_drewN | apply below_drew1) | exact HB.out)⟩⟩
                              · rw [if_neg c18] at H
                                have c18b0 : (x10_1 == (rd l1 x12_2)) = false := beq_eq_false_iff_ne.mpr c18
                                have c18b1 : (x10_1 != (rd l1 x12_2)) = true := bne_iff_ne.mpr c18
                                replace H := Option.bind_eq_some_iff.mp H
                                obtain ⟨t268, A190, H⟩ := H
                                replace H : (neonwrightref04_Grow.l1 k2 a0 l1 x9_1 x10_1 (!t268) (wrap64 (x12_2 + 1))) = some (r1, r2) := H
                                have A19 := Aside0.mk A190
                                clear A190
                                have H' := Aside0.mk H
                                clear H
                                have p266 : 0 ≤ (x12_2 : Int) := of_decide_eq_true (by first | (with_reducible assumption) | assumption)
                                have q266 : x12_2 < (l1.length : Int) := of_decide_eq_true (by first | (with_reducible assumption) | assumption)
                                obtain ⟨ad266, e266, hx266_0⟩ := Kd.at_int HR1.out x12_2 p266 q266
                                obtain rfl : ad264 = ad266 := (by injection e266)
                                replace hx266_0 := (HB.out.cell (World.block_lt_of_cell? w _ hx266_0)).trans hx266_0
                                replace p266 := eq_true p266
                                replace q266 := eq_true q266
                                have p267 : 0 ≤ (x12_2 : Int) := of_decide_eq_true (by first | (with_reducible assumption) | assumption)
                                have q267 : x12_2 < (l1.length : Int) := of_decide_eq_true (by first | (with_reducible assumption) | assumption)
                                obtain ⟨ad267, e267, hx267_0⟩ := Kd.at_int HR1.out x12_2 p267 q267
                                obtain rfl : ad264 = ad267 := (by injection e267)
                                replace hx267_0 := (HB.out.cell (World.block_lt_of_cell? w _ hx267_0)).trans hx267_0
                                replace p267 := eq_true p267
                                replace q267 := eq_true q267
                                go_wp2_with (first | (go_at_call 54; (with_reducible refine (neonwrightref04_near.calls x10_1 (rd l1 x12_2) t268 _ A19.out).mono ?_); rintro e w' ⟨rfl, ⟨nd, rfl⟩⟩))
                                go_roundg k2
                                case measure => have := HK1.out; have := HK2.out; omega
                                case rel => exact ⟨(!t268), (wrap64 (x12_2 + 1)), (by first | rfl | (simp; done) | (simp [*]; done)), (by first | rfl | (simp; done) | (simp [*]; done)), H', ⟨by have := HK1.out; have := HK2.out; omega⟩, ⟨by (with_reducible repeat (first | apply Kd.R_alloc | apply Kd.R_drewN | apply Kd.R_drew)); first | exact HO_9.out | exact Kd.R_mono HO_9.out (fun k_ h_ => ne_own_len h_)⟩, ⟨by repeat (first | (with_reducible first | exact HB.out | apply below_alloc | apply pw_below_drewN | apply below_drew1) | exact HB.out)⟩⟩
                            · rw [if_neg c17] at H
                              exact absurd H (by simp)
                          · rw [if_neg c16] at H
                            exact absurd H (by simp)
                        · replace c15 := Bool.eq_false_iff.mpr c15
                          subst c15
                          have H1 : (neonwrightref04_Grow.l0 k2 a0 l1 x9_1 (wrap64 (x10_1 + 1))) = some (r1, r2) := by rw [if_neg (show ¬ (false = true) by decide)] at H; exact H
                          clear H
                          have H := H1
                          clear H1
                          have H' := Aside0.mk H
                          clear H
                          go_wp2
                          go_roundg k2
                          case measure => have := HK1.out; have := HK2.out; omega
                          case rel => exact ⟨(x9_1), (wrap64 (x10_1 + 1)), (by first | rfl | (simp; done) | (simp [*]; done)), H', ⟨by have := HK1.out; have := HK2.out; omega⟩, ⟨by (with_reducible repeat (first | apply Kd.R_alloc | apply Kd.R_drewN | apply Kd.R_drew)); first | exact HO_9.out | exact Kd.R_mono HO_9.out (fun k_ h_ => ne_own_len h_)⟩, ⟨by repeat (first | (with_reducible first | exact HB.out | apply below_alloc | apply pw_below_drewN | apply below_drew1) | exact HB.out)⟩⟩
                      · rw [if_neg c14] at H
                        have c14b0 : decide (x12_2 < (wrap64 ((l1.length : Int) - 1))) = false := decide_eq_false c14
                        (try (have c14b0m1 : decide (x12_2 < (ji10)) = false := by rw [← hji10]; exact c14b0))
                        clear c14
                        by_cases c20 : x11_2 = true
                        · subst c20
                          have H1 : (if x9_1.length < 17592186044416 then (neonwrightref04_Grow.l0 k2 a0 l1 (x9_1 ++ [x10_1]) (wrap64 (x10_1 + 1))) else (none)) = some (r1, r2) := by rw [if_pos rfl] at H; exact H
                          clear H
                          have H := H1
                          clear H1
                          by_cases c21 : x9_1.length < 17592186044416
                          · rw [if_pos c21] at H
                            have LMc21 := Aside0.mk c21
                            clear c21
                            obtain ⟨y269, hy269⟩ : ∃ y_ : List Int, y_ = (x9_1 ++ [x10_1]) := ⟨_, rfl⟩
                            replace H : (neonwrightref04_Grow.l0 k2 a0 l1 y269 (wrap64 (x10_1 + 1))) = some (r1, r2) := by first | (rw [hy269]; with_reducible exact H) | (have H2_ := (Option.bind_some _ _).symm.trans H; rw [hy269]; with_reducible exact H2_) | (have H2_ := (Option.bind_some _ _).symm.trans H; with_reducible exact H2_) | with_reducible exact H | (rw [hy269]; exact H) | exact H
                            have Ny269 := Aside0.mk hy269
                            clear hy269
                            have H' := Aside0.mk H
                            clear H
                            go_wp2_with (first | ((with_reducible refine gate_builtin (b := .append) (xs := #[.tmp 66, .tmp 68]) rfl ?_); at_builtin; refine Kd.R_append (Kd.int .i64) (w0 := w) w.heap.size rfl (.tmp 66) (.tmp 68) 22 3 (.int .i64 0) 8 rfl Try.underlying22 info3 rfl (by decide) (by omega) u9 x9_1 x10_1 [.int .i64 x10_1] (fun _ => True) (fun _ => False) rfl rfl ?aP (fun _ hk => hk.elim) ?aF ?aO ?aB ?aS ?aL ?_; (case aP => exact rfl); (case aB => exact (by repeat (first | (with_reducible first | exact HB.out | apply below_alloc | apply pw_below_drewN | apply below_drew1) | exact HB.out))); (case aF => exact (fun _ _ => trivial)); (case aO => exact (by (with_reducible repeat (first | apply Kd.R_alloc | apply Kd.R_drewN | apply Kd.R_drew)); exact HO_9.out)); (case aS => exact (below_size (by repeat (first | (with_reducible first | exact HB.out | apply below_alloc | apply pw_below_drewN | apply below_drew1) | exact HB.out)))); (case aL => have := LMc21.out; omega); intro v270 w22 ho hb hg hat; rw [← Ny269.out] at ho; have n0_ := Aside0.mk (hb); have n1_ := Aside0.mk (ho); clear HB; clear HO_9; have HB := n0_; have HO271 := n1_; clear n0_ n1_; clear ho hb hg hat))
                            go_roundg k2
                            case measure => have := HK1.out; have := HK2.out; omega
                            case rel => exact ⟨(y269), (wrap64 (x10_1 + 1)), (by first | rfl | (simp; done) | (simp [*]; done)), H', ⟨by have := HK1.out; have := HK2.out; omega⟩, ⟨by (with_reducible repeat (first | apply Kd.R_alloc | apply Kd.R_drewN | apply Kd.R_drew)); first | exact HO271.out | exact Kd.R_mono HO271.out (fun k_ h_ => ne_own_len h_)⟩, ⟨by repeat (first | (with_reducible first | exact HB.out | apply below_alloc | apply pw_below_drewN | apply below_drew1) | exact HB.out)⟩⟩
                          · rw [if_neg c21] at H
                            exact absurd H (by simp)
                        · replace c20 := Bool.eq_false_iff.mpr c20
                          subst c20
                          have H1 : (neonwrightref04_Grow.l0 k2 a0 l1 x9_1 (wrap64 (x10_1 + 1))) = some (r1, r2) := by rw [if_neg (show ¬ (false = true) by decide)] at H; exact H
                          clear H
                          have H := H1
                          clear H1
                          have H' := Aside0.mk H
                          clear H
                          go_wp2
                          go_roundg k2
                          case measure => have := HK1.out; have := HK2.out; omega
                          case rel => exact ⟨(x9_1), (wrap64 (x10_1 + 1)), (by first | rfl | (simp; done) | (simp [*]; done)), H', ⟨by have := HK1.out; have := HK2.out; omega⟩, ⟨by (with_reducible repeat (first | apply Kd.R_alloc | apply Kd.R_drewN | apply Kd.R_drew)); first | exact HO_9.out | exact Kd.R_mono HO_9.out (fun k_ h_ => ne_own_len h_)⟩, ⟨by repeat (first | (with_reducible first | exact HB.out | apply below_alloc | apply pw_below_drewN | apply below_drew1) | exact HB.out)⟩⟩
                · rw [if_neg c12] at H
                  exact absurd H (by simp)
              · rw [if_neg c11] at H
                exact absurd H (by simp)
            · rw [if_neg c9] at H
              have c9b0 : decide (x10_1 < (ji8)) = false := decide_eq_false c9
              clear c9
              simp only [Option.some.injEq, Prod.mk.injEq] at H
              obtain ⟨rfl, rfl⟩ := H
              go_wp2
              go_ret2
              exact ⟨_, by first | rfl | (simp [errW_none, errW_some] <;> rfl) | (simp only [← hji8]; first | rfl | (simp [errW_none, errW_some] <;> rfl)) | (simp [*, errW_none, errW_some] <;> rfl), by (with_reducible repeat (first | apply Kd.R_alloc | apply Kd.R_drewN | apply Kd.R_drew)); exact HO_9.out, by repeat (first | (with_reducible first | exact HB.out | apply below_alloc | apply pw_below_drewN | apply below_drew1) | exact HB.out)⟩
          · rw [if_neg c7] at H
            exact absurd H (by simp)
    · replace c6 := Bool.eq_false_iff.mpr c6
      subst c6
      have H1 : (some (([] : List Int), 5)) = some (r1, r2) := by rw [if_neg (show ¬ (false = true) by decide)] at H; exact H
      clear H
      have H := H1
      clear H1
      simp only [Option.some.injEq, Prod.mk.injEq] at H
      obtain ⟨rfl, rfl⟩ := H
      go_enter Try.func30, Try.ntmps30
      go_wp2_with (first | ((with_reducible refine gate_callee (f := 51) rfl ?_); refine goesL_ (some 15) rfl rfl Try.func51 (by kernel_rfl) rfl #[.int .i64 a0, .slice A1 l1.length c1] rfl (by (try simp only [List.map_toArray, List.map_cons, List.map_nil]); first | done | rfl | (simp only [List.length_drop, List.length_take]; rfl)) ?_; (with_reducible refine (neonwrightref04_States.calls k a0 _ _ l1 t261 _ ?side1 ?side2 A3.out).mono ?_); (case side1 => repeat (first | exact HR1.out | (with_reducible refine Kd.C_alloc ?_ _) | (with_reducible refine Kd.C_drewN ?_ _) | (with_reducible refine Kd.C_drew ?_))); (case side2 => exact HC1.out); rintro e w' ⟨rfl, ⟨nd, rfl⟩⟩; refine ⟨_, rfl, ?_⟩) | ((with_reducible refine gate_callee (f := 52) rfl ?_); refine goesL_ (some 21) rfl rfl Try.func52 (by kernel_rfl) rfl #[.slice A1 l1.length c1] rfl (by (try simp only [List.map_toArray, List.map_cons, List.map_nil]); first | done | rfl | (simp only [List.length_drop, List.length_take]; rfl)) ?_; (with_reducible refine (neonwrightref04_snake.calls k _ _ l1 false t263 _ ?side1 ?side2 A5.out).mono ?_); (case side1 => repeat (first | exact HR1.out | (with_reducible refine Kd.C_alloc ?_ _) | (with_reducible refine Kd.C_drewN ?_ _) | (with_reducible refine Kd.C_drew ?_))); (case side2 => exact HC1.out); rintro e w' ⟨rfl, ⟨nd, rfl⟩⟩; refine ⟨_, rfl, ?_⟩))
      go_ret2
      exact ⟨_, by first | rfl | (simp [errW_none, errW_some] <;> rfl) | (simp [*, errW_none, errW_some] <;> rfl), by first | exact Kd.R_nil _ _ _ _ _ | exact Kd.N_nil _ _ _ _ _ | exact Kd.V_nil _ _ _ _ _ | exact Kd.Q_nil _ _ _ _ _ | exact Kd.S_nil _ _ _ _ _, by repeat (first | (with_reducible first | exact HB.out | apply below_alloc | apply pw_below_drewN | apply below_drew1) | exact HB.out)⟩
  · rw [if_neg c4] at H
    have c4b0 : (t261 == 0) = false := beq_eq_false_iff_ne.mpr c4
    have c4b1 : (t261 != 0) = true := bne_iff_ne.mpr c4
    simp only [Option.some.injEq, Prod.mk.injEq] at H
    obtain ⟨rfl, rfl⟩ := H
    go_enter Try.func30, Try.ntmps30
    go_wp2_with (first | ((with_reducible refine gate_callee (f := 51) rfl ?_); refine goesL_ (some 15) rfl rfl Try.func51 (by kernel_rfl) rfl #[.int .i64 a0, .slice A1 l1.length c1] rfl (by (try simp only [List.map_toArray, List.map_cons, List.map_nil]); first | done | rfl | (simp only [List.length_drop, List.length_take]; rfl)) ?_; (with_reducible refine (neonwrightref04_States.calls k a0 _ _ l1 t261 _ ?side1 ?side2 A3.out).mono ?_); (case side1 => repeat (first | exact HR1.out | (with_reducible refine Kd.C_alloc ?_ _) | (with_reducible refine Kd.C_drewN ?_ _) | (with_reducible refine Kd.C_drew ?_))); (case side2 => exact HC1.out); rintro e w' ⟨rfl, ⟨nd, rfl⟩⟩; refine ⟨_, rfl, ?_⟩))
    go_ret2
    exact ⟨_, by first | rfl | (simp [errW_none, errW_some] <;> rfl) | (simp [*, errW_none, errW_some] <;> rfl), by first | exact Kd.R_nil _ _ _ _ _ | exact Kd.N_nil _ _ _ _ _ | exact Kd.V_nil _ _ _ _ _ | exact Kd.Q_nil _ _ _ _ _ | exact Kd.S_nil _ _ _ _ _, by repeat (first | (with_reducible first | exact HB.out | apply below_alloc | apply pw_below_drewN | apply below_drew1) | exact HB.out)⟩

end Go.Proofs.Ytnakkdaeehglnaa.P

set_option linter.unusedSimpArgs false
set_option linter.unusedVariables false
namespace Go.Proofs.Ytnakkdaeehglnaa.P
open Go.Lib Go.RowKit Go.Proofs.YtnakkdaeehglnaaW.PrintWords Go.Proofs.YtnakkdaeehglnaaW.PrintMore Go.Proofs.Ytnakkdaeehglnaa.Kit

theorem one_two_all : ((List.range 64).all fun a => (List.range 64).all fun b => ((List.range 12).any fun t => 2 ^ t == 64 * a + b) == oneN (64 * a + b)) = true := by decide +kernel
theorem one_two {x : Nat} (h : x < 4096) : oneN x = true ↔ ∃ t, t < 12 ∧ x = 2 ^ t := by
  have h1 := one_two_all
  rw [List.all_eq_true] at h1
  have h2 := h1 (x / 64) (List.mem_range.2 (by omega))
  rw [List.all_eq_true] at h2
  have h3 := h2 (x % 64) (List.mem_range.2 (by omega))
  rw [show 64 * (x / 64) + x % 64 = x from by omega] at h3
  rw [← beq_iff_eq.1 h3, List.any_eq_true]
  constructor
  · rintro ⟨t, ht, e⟩
    exact ⟨t, List.mem_range.1 ht, (beq_iff_eq.1 e).symm⟩
  · rintro ⟨t, ht, e⟩
    exact ⟨t, List.mem_range.2 ht, beq_iff_eq.2 e.symm⟩
/-- Two lists that ascend and have the same members are one. -/
theorem asc_uniq : ∀ {a b : List Int}, a.Pairwise (· < ·) → b.Pairwise (· < ·) → (∀ x, x ∈ a ↔ x ∈ b) → a = b := by
  intro a
  induction a with
  | nil =>
    intro b _ _ h
    cases b with
    | nil => rfl
    | cons y ys => exact absurd ((h y).2 List.mem_cons_self) (by simp)
  | cons x xs ih =>
    intro b ha hb h
    cases b with
    | nil => exact absurd ((h x).1 List.mem_cons_self) (by simp)
    | cons y ys =>
      rw [List.pairwise_cons] at ha hb
      have hxy : x = y := by
        rcases List.mem_cons.1 ((h x).1 List.mem_cons_self) with e | e
        · exact e
        · rcases List.mem_cons.1 ((h y).2 List.mem_cons_self) with e2 | e2
          · exact e2.symm
          · have := hb.1 x e
            have := ha.1 y e2
            omega
      subst hxy
      rw [ih ha.2 hb.2 (fun z => ?_)]
      constructor
      · intro hz
        rcases List.mem_cons.1 ((h z).1 (List.mem_cons_of_mem _ hz)) with e | e
        · have := ha.1 z hz; omega
        · exact e
      · intro hz
        rcases List.mem_cons.1 ((h z).2 (List.mem_cons_of_mem _ hz)) with e | e
        · have := hb.1 z hz; omega
        · exact e
theorem isort_asc {l : List Int} (h : l.Nodup) : (isort l).Pairwise (· < ·) := by
  have h1 := isort_sorted l
  have h2 : (isort l).Nodup := (isort_perm l).nodup_iff.2 h
  exact (h1.and h2).imp (fun h => by have := h.1; have := h.2; omega)
/-- What may come next. -/
def freeB (l : List Int) (x : Int) : Bool := okFrom (fun i => decide (x ≠ rd l (i : Int)) && !nx x (rd l (i : Int))) (l.length - 1) 0
def growL (n : Nat) (l : List Int) : List Int := (ups' (2 ^ n)).filter fun x => nx x (lastI l) && freeB l x
where ups' (m : Nat) : List Int := (List.range m).map fun (t : Nat) => (t : Int)
theorem ups'_succ (m : Nat) : growL.ups' (m + 1) = growL.ups' m ++ [(m : Int)] := by
  unfold growL.ups'
  rw [List.range_succ, List.map_append]
  rfl
theorem ups'_asc (m : Nat) : (growL.ups' m).Pairwise (· < ·) := by
  unfold growL.ups'
  rw [List.pairwise_map]
  exact List.pairwise_lt_range.imp (fun h => by omega)
theorem flip_nodup (s : Int) (n : Nat) : ((List.range n).map (flip s)).Nodup := by
  unfold List.Nodup
  rw [List.pairwise_map]
  refine List.pairwise_lt_range.imp (fun {a b} h e => ?_)
  unfold flip at e
  have e1 : s.toNat ^^^ 2 ^ a = s.toNat ^^^ 2 ^ b := by omega
  have e2 : 2 ^ a = 2 ^ b := by
    have h3 : s.toNat ^^^ (s.toNat ^^^ 2 ^ a) = s.toNat ^^^ (s.toNat ^^^ 2 ^ b) := by rw [e1]
    rw [← Nat.xor_assoc, ← Nat.xor_assoc, Nat.xor_self, Nat.zero_xor, Nat.zero_xor] at h3
    exact h3
  have := Nat.pow_lt_pow_right (a := 2) (by decide) h
  omega
theorem last_rd (l : List Int) (h : 0 < l.length) : lastI l = rd l ((l.length - 1 : Nat) : Int) := by
  unfold lastI
  rw [show (l.length : Int) - 1 = ((l.length - 1 : Nat) : Int) from by omega]
theorem free_any {n : Nat} {l : List Int} (h : Fine n l) (x : Int) : (!(l.take (l.length - 1)).any (nearB x)) = freeB l x := by
  unfold freeB
  rw [Bool.eq_iff_iff, okFrom_iff, Bool.not_eq_true', Bool.eq_false_iff]
  constructor
  · intro h1 i _ hi
    rw [Bool.and_eq_true]
    have hin : rd l (i : Int) ∈ l.take (l.length - 1) := by
      rw [List.mem_take_iff_getElem]
      exact ⟨i, by omega, (rd_get l i (by omega)).symm⟩
    have h2 : nearB x (rd l (i : Int)) = false := by
      rw [Bool.eq_false_iff]
      intro h3
      exact h1 (List.any_eq_true.2 ⟨_, hin, h3⟩)
    unfold nearB at h2
    rw [Bool.or_eq_false_iff] at h2
    refine ⟨decide_eq_true (fun e => ?_), ?_⟩
    · rw [← e] at h2
      simp at h2
    · rw [nx_comm, h2.2]; rfl
  · intro h1 h2
    obtain ⟨y, hy, h3⟩ := List.any_eq_true.1 h2
    obtain ⟨i, hi, e⟩ := List.mem_take_iff_getElem.1 hy
    have h4 := h1 i (by omega) (by omega)
    rw [rd_get l i (by omega), e, Bool.and_eq_true] at h4
    unfold nearB at h3
    rw [Bool.or_eq_true] at h3
    rcases h3 with h3 | h3
    · exact of_decide_eq_true h4.1 (beq_iff_eq.1 h3).symm
    · rw [nx_comm, h3] at h4
      simp at h4
theorem grown_eq {n : Nat} {l : List Int} (h : Fine n l) : isort (addable l n) = growL n l := by
  have hp := h.pos
  have hlast := h.rd (l.length - 1) (by omega)
  rw [← last_rd l hp] at hlast
  have hln : lastI l < ((2 ^ n : Nat) : Int) := by
    rw [last_rd l hp, rd_get l _ (by omega)]
    exact (h.all _ (List.getElem_mem _)).2
  have h12 := pow12' h.n2
  refine asc_uniq (isort_asc ?_) ?_ (fun x => ?_)
  · unfold addable
    exact List.Nodup.sublist (List.filter_sublist) (flip_nodup _ _)
  · unfold growL
    exact List.Pairwise.sublist List.filter_sublist (ups'_asc _)
  · rw [mem_isort]
    unfold addable growL growL.ups'
    rw [List.mem_filter, List.mem_filter, List.mem_map, List.mem_map, free_any h, Bool.and_eq_true]
    constructor
    · rintro ⟨⟨t, ht, rfl⟩, hf⟩
      have ht := List.mem_range.1 ht
      have hpt : 2 ^ t < 2 ^ n := Nat.pow_lt_pow_right (by decide) ht
      have hx : (lastI l).toNat ^^^ 2 ^ t < 2 ^ n := Nat.xor_lt_two_pow (by omega) hpt
      refine ⟨⟨(lastI l).toNat ^^^ 2 ^ t, List.mem_range.2 hx, rfl⟩, ?_, hf⟩
      unfold flip
      rw [nx_one (by omega) hlast, Int.toNat_natCast, Nat.xor_comm, ← Nat.xor_assoc, Nat.xor_self, Nat.zero_xor]
      exact one_pow t
    · rintro ⟨⟨m, hm, rfl⟩, hn, hf⟩
      have hm := List.mem_range.1 hm
      rw [nx_one (by omega) hlast, Int.toNat_natCast] at hn
      have hx : m ^^^ (lastI l).toNat < 2 ^ n := Nat.xor_lt_two_pow hm (by omega)
      obtain ⟨t, ht, e⟩ := (one_two (by omega)).1 hn
      have htn : t < n := by
        rcases Nat.lt_or_ge t n with h1 | h1
        · exact h1
        · have := Nat.pow_le_pow_right (n := 2) (by decide) h1
          omega
      refine ⟨⟨t, List.mem_range.2 htn, ?_⟩, hf⟩
      unfold flip
      rw [← e, Nat.xor_comm m, ← Nat.xor_assoc, Nat.xor_self, Nat.zero_xor]
theorem rgrow_l1 {n : Nat} {l : List Int} (h : Fine n l) (x : Nat) (hx : x < 2 ^ n) (out : List Int) (r : List Int × Int) (ho : out.length ≤ 4096) :
    ∀ d i ok, (l.length - 1) - i = d → i ≤ l.length - 1 →
    Ev (fun k => neonwrightref04_Grow.l0 k (n : Int) l (if (ok && okFrom (fun i => decide ((x : Int) ≠ rd l (i : Int)) && !nx (x : Int) (rd l (i : Int))) d i) = true then out ++ [(x : Int)] else out) ((x + 1 : Nat) : Int)) r →
    Ev (fun k => neonwrightref04_Grow.l1 k (n : Int) l out (x : Int) ok (i : Int)) r := by
  have hl := h.le
  have hp := h.pos
  have h12 := pow12' h.n2
  have hw : wrap64 ((x : Int) + 1) = ((x + 1 : Nat) : Int) := by rw [w64 (by omega) (by omega)]; rfl
  intro d
  induction d with
  | zero =>
    intro i ok hd hi hR
    rw [show okFrom _ 0 i = true from rfl, Bool.and_true] at hR
    refine Ev.step (f := fun k => neonwrightref04_Grow.l0 k (n : Int) l (if ok = true then out ++ [(x : Int)] else out) ((x + 1 : Nat) : Int)) (fun k => ?_) hR
    simp only [neonwrightref04_Grow.l1]
    rw [last_w hp (by omega), if_neg (by omega), hw]
    cases ok with
    | true => rw [if_pos rfl, if_pos (by omega), if_pos rfl]
    | false => rw [if_neg (by decide), if_neg (by decide)]
  | succ d ih =>
    intro i ok hd hi hR
    have hi1 : wrap64 ((i : Int) + 1) = ((i + 1 : Nat) : Int) := by rw [w64 (by omega) (by omega)]; rfl
    cases ok with
    | false =>
      rw [Bool.false_and, if_neg (by decide)] at hR
      refine Ev.step (f := fun k => neonwrightref04_Grow.l0 k (n : Int) l out ((x + 1 : Nat) : Int)) (fun k => ?_) hR
      simp only [neonwrightref04_Grow.l1]
      rw [last_w hp (by omega), if_pos (by omega), if_neg (by decide), hw]
    | true =>
      unfold okFrom at hR
      have hi2 : i < l.length := by omega
      rw [Bool.true_and] at hR
      have h1 := ih (i + 1) (decide ((x : Int) ≠ rd l (i : Int)) && !nx (x : Int) (rd l (i : Int))) (by omega) (by omega) hR
      refine Ev.step (f := fun k => neonwrightref04_Grow.l1 k (n : Int) l out (x : Int) (decide ((x : Int) ≠ rd l (i : Int)) && !nx (x : Int) (rd l (i : Int))) ((i + 1 : Nat) : Int)) (fun k => ?_) h1
      simp only [neonwrightref04_Grow.l1]
      rw [last_w hp (by omega), if_pos (by omega), if_pos (by trivial), if_pos (by omega), if_pos (by omega), hi1]
      by_cases c : (x : Int) = rd l (i : Int)
      · rw [if_pos c, decide_eq_false (fun hne => hne c), Bool.false_and]
      · rw [if_neg c, near_nx (by omega) (h.rd i hi2), Option.bind_some, decide_eq_true c, Bool.true_and]
theorem rgrow_l0 {n : Nat} {l : List Int} (h : Fine n l) : ∀ d x, 2 ^ n - x = d → x ≤ 2 ^ n →
    Ev (fun k => neonwrightref04_Grow.l0 k (n : Int) l ((growL.ups' x).filter fun x => nx x (lastI l) && freeB l x) (x : Int)) (growL n l, 0) := by
  have hl := h.le
  have hp := h.pos
  have h12 := pow12' h.n2
  have hn2 := h.n2
  intro d
  induction d with
  | zero =>
    intro x hd hx
    obtain rfl : x = 2 ^ n := by omega
    refine Ev.step (f := fun _ => some (growL n l, 0)) (fun k => ?_) (Ev.now _)
    simp only [neonwrightref04_Grow.l0]
    rw [if_pos (by omega), shl1n (by omega), if_neg (by omega)]
    rfl
  | succ d ih =>
    intro x hd hx
    have hxl : x < 2 ^ n := by omega
    have hlen : ((growL.ups' x).filter fun x => nx x (lastI l) && freeB l x).length ≤ 4096 := by
      refine Nat.le_trans (List.length_filter_le _ _) ?_
      unfold growL.ups'
      rw [List.length_map, List.length_range]
      omega
    have hnext := ih (x + 1) (by omega) (by omega)
    rw [ups'_succ, List.filter_append] at hnext
    generalize ((growL.ups' x).filter fun x => nx x (lastI l) && freeB l x) = out at hlen hnext
    have hl1 : nx (x : Int) (rd l ((l.length - 1 : Nat) : Int)) = nx (x : Int) (lastI l) := by rw [last_rd l hp]
    have h1 : Ev (fun k => neonwrightref04_Grow.l1 k (n : Int) l out (x : Int) (nx (x : Int) (lastI l)) ((0 : Nat) : Int)) (growL n l, 0) := by
      have hfr : (nx (x : Int) (lastI l) && okFrom (fun i => decide ((x : Int) ≠ rd l (i : Int)) && !nx (x : Int) (rd l (i : Int))) (l.length - 1) 0) = (nx (x : Int) (lastI l) && freeB l (x : Int)) := rfl
      have hout : (if (nx (x : Int) (lastI l) && freeB l (x : Int)) = true then out ++ [(x : Int)] else out) = out ++ List.filter (fun x => nx x (lastI l) && freeB l x) [(x : Int)] := by
        cases hb : (nx (x : Int) (lastI l) && freeB l (x : Int)) <;> simp [List.filter_cons, hb]
      rw [← hout] at hnext
      have h3 := rgrow_l1 h x hxl out (growL n l, 0) hlen (l.length - 1) 0 (nx (x : Int) (lastI l)) (by omega) (by omega) (by rw [hfr]; exact hnext)
      exact h3
    refine Ev.step (f := fun k => neonwrightref04_Grow.l1 k (n : Int) l out (x : Int) (nx (x : Int) (lastI l)) ((0 : Nat) : Int)) (fun k => ?_) h1
    simp only [neonwrightref04_Grow.l0]
    rw [if_pos (by omega), shl1n (by omega), if_pos (by omega), last_w hp (by omega), if_pos (by omega), if_pos (by omega), near_nx (by omega) (h.rd (l.length - 1) (by omega)), Option.bind_some, hl1]
    rfl
def growR (n : Int) (l : List Int) : List Int × Int := if listedN n l = 0 then (if (pathB l && snakeB l false) = true then (growL n.toNat l, 0) else ([], 5)) else ([], listedN n l)
theorem grow_ev (n : Int) (l : List Int) : Ev (fun k => flash_Grow.f k n l) (growR n l) := by
  unfold growR
  by_cases hz : listedN n l = 0
  · obtain ⟨m, rfl, hf⟩ := listedN_fine hz
    rw [if_pos hz, Int.toNat_natCast]
    refine Ev.congr (f := fun k => if pathB l = true then ((flash_snake.f k l false).bind fun t257 => (if t257 = true then some (growL m l, 0) else (some (([] : List Int), 5)))) else (some (([] : List Int), 5))) (fun k => ?_) ?_
    · show flash_Grow.f k _ _ = _
      unfold flash_Grow.f
      rw [listed_f, Option.bind_some, if_pos hz]
      unfold flash_path.f
      rw [if_pos hf.small, Option.bind_some]
      congr 1
      congr 1
      funext t
      congr 1
      unfold flash_grown.f
      have := hf.n1; have := hf.n2; have := hf.pos
      rw [if_pos ⟨⟨by omega, by omega, hf.pos⟩, hf.small⟩, Int.toNat_natCast, grown_eq hf]
      rfl
    · cases hp : pathB l with
      | false => exact Ev.neg (by decide) (by simpa using Ev.now _)
      | true =>
        refine Ev.pos rfl (Ev.bnd (snake_ev hf false) ?_)
        cases snakeB l false with
        | true => exact Ev.pos rfl (by simpa using Ev.now _)
        | false => exact Ev.neg (by decide) (by simpa using Ev.now _)
  · rw [if_neg hz]
    refine Ev.at 0 (fun k _ => ?_)
    unfold flash_Grow.f
    rw [listed_f, Option.bind_some, if_neg hz]
theorem rgrow_ev (n : Int) (l : List Int) : Ev (fun k => neonwrightref04_Grow.f k n l) (growR n l) := by
  unfold growR
  refine Ev.congr (f := fun k => (neonwrightref04_States.f k n l).bind fun t261 => (if t261 = 0 then ((neonwrightref04_snake.f k l).bind fun bt262 => (if bt262.1 = true then (neonwrightref04_Grow.l0 k n l ([] : List Int) ((0 : Nat) : Int)) else (some (([] : List Int), 5)))) else (some (([] : List Int), t261)))) (fun k => rfl) (Ev.bnd (states_ev n l) ?_)
  by_cases hz : listedN n l = 0
  · obtain ⟨m, rfl, hf⟩ := listedN_fine hz
    rw [if_pos hz, Int.toNat_natCast]
    refine Ev.pos hz (Ev.bnd (rsnake_ev hf) ?_)
    have h0 := rgrow_l0 hf (2 ^ m) 0 (Nat.sub_zero _) (Nat.zero_le _)
    cases hb : (pathB l && snakeB l false) with
    | true => exact Ev.pos rfl (by rw [if_pos rfl]; exact h0)
    | false => exact Ev.neg (by simp) (by rw [if_neg (by decide)]; exact Ev.now _)
  · rw [if_neg hz]
    exact Ev.neg hz (Ev.now _)
theorem growR_len (n : Int) (l : List Int) : (growR n l).1.length ≤ 4096 := by
  unfold growR
  split
  · rename_i hz
    obtain ⟨m, rfl, hf⟩ := listedN_fine hz
    split
    · unfold growL growL.ups'
      refine Nat.le_trans (List.length_filter_le _ _) ?_
      rw [List.length_map, List.length_range, Int.toNat_natCast]
      exact pow12' hf.n2
    · exact Nat.zero_le _
  · exact Nat.zero_le _
end Go.Proofs.Ytnakkdaeehglnaa.P

set_option linter.unusedSimpArgs false
set_option linter.unusedVariables false
namespace Go.Proofs.Ytnakkdaeehglnaa.P
open Go.Lib Go.RowKit Go.Proofs.YtnakkdaeehglnaaW.PrintWords Go.Proofs.YtnakkdaeehglnaaW.PrintMore Go.Proofs.Ytnakkdaeehglnaa.Kit

theorem snake_iff {l : List Int} : snakeB l false = true ↔ ∀ i j : Nat, i + 2 ≤ j → j < l.length → nx (rd l (i : Int)) (rd l (j : Int)) = false := by
  unfold snakeB
  rw [okFrom_iff]
  constructor
  · intro h i j hij hj
    have h1 := (okFrom_iff _ _ _).1 (h i (by omega) (by omega)) j (by omega) (by omega)
    unfold pairOk at h1
    simpa using h1
  · intro h i _ hi
    rw [okFrom_iff]
    intro j h1 h2
    unfold pairOk
    rw [h i j h1 (by omega)]
    rfl
theorem path_iff {l : List Int} : pathB l = true ↔ (∀ i : Nat, i + 1 < l.length → nx (rd l (i : Int)) (rd l ((i + 1 : Nat) : Int)) = true) ∧ ∀ i j : Nat, i < j → j < l.length → rd l (i : Int) ≠ rd l (j : Int) := by
  constructor
  · intro h
    refine ⟨fun i hi => path_next h hi, fun i j hij hj e => ?_⟩
    rw [← path_ok, okFrom_iff] at h
    have h1 := h j (by omega) (by omega)
    unfold stepB newB at h1
    rw [Bool.and_eq_true, okFrom_iff] at h1
    exact of_decide_eq_true (h1.2 i (by omega) (by omega)) e
  · rintro ⟨h1, h2⟩
    rw [← path_ok, okFrom_iff]
    intro j _ hj
    unfold stepB newB
    rw [Bool.and_eq_true, okFrom_iff]
    constructor
    · by_cases h0 : j = 0
      · rw [decide_eq_true h0, Bool.true_or]
      · have := h1 (j - 1) (by omega)
        rw [show j - 1 + 1 = j from by omega] at this
        rw [this, Bool.or_true]
    · intro i _ hi
      exact decide_eq_true (h2 i j (by omega) (by omega))
theorem rd_app {l : List Int} {x : Int} {i : Nat} (hi : i < l.length) : rd (l ++ [x]) (i : Int) = rd l (i : Int) := by
  rw [rd_get _ i (by rw [List.length_append]; omega), rd_get l i hi, List.getElem_append_left hi]
theorem rd_end {l : List Int} {x : Int} : rd (l ++ [x]) (l.length : Int) = x := by
  rw [rd_get _ _ (by rw [List.length_append, List.length_singleton]; omega)]
  simp
theorem rd_take {l : List Int} {m i : Nat} (hi : i < m) (hm : m ≤ l.length) : rd (l.take m) (i : Int) = rd l (i : Int) := by
  rw [rd_get _ i (by rw [List.length_take]; omega), rd_get l i (by omega), List.getElem_take]
theorem mem_ups' {m : Nat} {x : Int} : x ∈ growL.ups' m ↔ 0 ≤ x ∧ x < m := by
  unfold growL.ups'
  rw [List.mem_map]
  constructor
  · rintro ⟨t, ht, rfl⟩
    have := List.mem_range.1 ht
    omega
  · rintro ⟨h0, h1⟩
    exact ⟨x.toNat, List.mem_range.2 (by omega), by omega⟩
theorem mem_growL {n : Nat} {l : List Int} (hp : 0 < l.length) {x : Int} : x ∈ growL n l ↔ (0 ≤ x ∧ x < ((2 ^ n : Nat) : Int)) ∧ nx (rd l ((l.length - 1 : Nat) : Int)) x = true ∧ ∀ i : Nat, i < l.length - 1 → x ≠ rd l (i : Int) ∧ nx (rd l (i : Int)) x = false := by
  unfold growL
  rw [List.mem_filter, mem_ups', Bool.and_eq_true, nx_comm, last_rd l hp]
  unfold freeB
  rw [okFrom_iff]
  constructor
  · rintro ⟨h1, h2, h3⟩
    refine ⟨h1, h2, fun i hi => ?_⟩
    have := h3 i (by omega) (by omega)
    rw [Bool.and_eq_true, nx_comm] at this
    exact ⟨of_decide_eq_true this.1, by simpa using this.2⟩
  · rintro ⟨h1, h2, h3⟩
    refine ⟨h1, h2, fun i _ hi => ?_⟩
    obtain ⟨a, b⟩ := h3 i (by omega)
    rw [nx_comm] at b
    rw [decide_eq_true a, b]
    rfl
theorem nx_self (x : Int) : nx x x = false := by unfold nx; rw [Nat.xor_self]; rfl
theorem grown_iff {n : Nat} {l : List Int} (hp : 0 < l.length) (h1 : pathB l = true) (h2 : snakeB l false = true) {x : Int} (hx : 0 ≤ x ∧ x < ((2 ^ n : Nat) : Int)) : (pathB (l ++ [x]) = true ∧ snakeB (l ++ [x]) false = true) ↔ x ∈ growL n l := by
  rw [path_iff] at h1
  rw [snake_iff] at h2
  rw [mem_growL hp, path_iff, snake_iff, List.length_append, List.length_singleton]
  constructor
  · rintro ⟨⟨a, b⟩, c⟩
    have ha := a (l.length - 1) (by omega)
    rw [show l.length - 1 + 1 = l.length from by omega, rd_end, rd_app (by omega)] at ha
    refine ⟨hx, ha, fun i hi => ⟨fun e => ?_, ?_⟩⟩
    · have := b i l.length (by omega) (by omega)
      rw [rd_end, rd_app (by omega)] at this
      exact this e.symm
    · have := c i l.length (by omega) (by omega)
      rwa [rd_end, rd_app (by omega)] at this
  · rintro ⟨_, a, b⟩
    refine ⟨⟨fun i hi => ?_, fun i j hij hj => ?_⟩, fun i j hij hj => ?_⟩
    · by_cases e : i + 1 < l.length
      · rw [rd_app (by omega), rd_app e]; exact h1.1 i e
      · obtain rfl : i = l.length - 1 := by omega
        rw [show l.length - 1 + 1 = l.length from by omega, rd_end, rd_app (by omega)]
        exact a
    · by_cases e : j < l.length
      · rw [rd_app (by omega), rd_app e]; exact h1.2 i j hij e
      · obtain rfl : j = l.length := by omega
        rw [rd_end, rd_app (by omega)]
        by_cases e2 : i < l.length - 1
        · exact fun e3 => (b i e2).1 e3.symm
        · obtain rfl : i = l.length - 1 := by omega
          intro e3
          rw [e3, nx_self] at a
          cases a
    · by_cases e : j < l.length
      · rw [rd_app (by omega), rd_app e]; exact h2 i j hij e
      · obtain rfl : j = l.length := by omega
        rw [rd_end, rd_app (by omega)]
        exact (b i (by omega)).2
theorem path_take {l : List Int} (h : pathB l = true) (m : Nat) (hm : m ≤ l.length) : pathB (l.take m) = true := by
  rw [path_iff] at *
  rw [List.length_take]
  refine ⟨fun i hi => ?_, fun i j hij hj => ?_⟩
  · rw [rd_take (by omega) hm, rd_take (by omega) hm]; exact h.1 i (by omega)
  · rw [rd_take (by omega) hm, rd_take (by omega) hm]; exact h.2 i j hij (by omega)
theorem snake_take {l : List Int} (h : snakeB l false = true) (m : Nat) (hm : m ≤ l.length) : snakeB (l.take m) false = true := by
  rw [snake_iff] at *
  rw [List.length_take]
  intro i j hij hj
  rw [rd_take (by omega) hm, rd_take (by omega) hm]
  exact h i j hij (by omega)
/-- All snakes of m states that begin with 0. -/
def snakes (n : Nat) : Nat → List (List Int)
  | 0 => []
  | 1 => [[0]]
  | m + 2 => (snakes n (m + 1)).flatMap fun l => (growL n l).map fun x => l ++ [x]
theorem snakes_mem {n : Nat} {l : List Int} (h : Fine n l) (hp : pathB l = true) (hs : snakeB l false = true) (h0 : rd l 0 = 0) : ∀ m, m + 1 ≤ l.length → l.take (m + 1) ∈ snakes n (m + 1) := by
  intro m
  induction m with
  | zero =>
    intro hm
    have h1 := rd_get l 0 (by omega)
    rw [show ((0 : Nat) : Int) = 0 from rfl, h0] at h1
    rw [List.take_succ_eq_append_getElem (by omega), ← h1]
    simp [snakes]
  | succ m ih =>
    intro hm
    have h1 := ih (by omega)
    have hx := h.all _ (List.getElem_mem (l := l) (n := m + 1) (by omega))
    have hpos : 0 < (l.take (m + 1)).length := by rw [List.length_take]; omega
    have h2 := (grown_iff (n := n) hpos (path_take hp (m + 1) (by omega)) (snake_take hs (m + 1) (by omega)) hx).1 (by
      rw [← List.take_succ_eq_append_getElem (by omega)]
      exact ⟨path_take hp (m + 1 + 1) (by omega), snake_take hs (m + 1 + 1) (by omega)⟩)
    unfold snakes
    rw [List.take_succ_eq_append_getElem (by omega)]
    exact List.mem_flatMap.2 ⟨_, h1, List.mem_map.2 ⟨_, h2, rfl⟩⟩
def mostN : Nat → Nat
  | 1 => 2
  | 2 => 3
  | 3 => 5
  | _ => 8
theorem no_more1 : snakes 1 3 = [] := by decide +kernel
theorem no_more2 : snakes 2 4 = [] := by decide +kernel
theorem no_more3 : snakes 3 6 = [] := by decide +kernel
theorem no_more4 : snakes 4 9 = [] := by decide +kernel
theorem no_more {n : Nat} (h1 : 1 ≤ n) (h4 : n ≤ 4) : snakes n (mostN n + 1) = [] := by
  rcases (show n = 1 ∨ n = 2 ∨ n = 3 ∨ n = 4 by omega) with rfl | rfl | rfl | rfl
  · exact no_more1
  · exact no_more2
  · exact no_more3
  · exact no_more4
theorem snake_most {n : Nat} {l : List Int} (h : Fine n l) (h4 : n ≤ 4) (hp : pathB l = true) (hs : snakeB l false = true) : l.length ≤ mostN n := by
  have hn1 := h.n1
  have hpos := h.pos
  have hb := fine_bit h 0 hpos
  have hm := moved_fine (k := 0) h (by omega) hb
  have r0 := moved_rd (n := n) (k := 0) (z := (rd l ((0 : Nat) : Int)).toNat) (a := l) 0 hpos
  rw [Nat.xor_self, show ((0 : Nat) : Int) = 0 from rfl] at r0
  have h0 : rotN n 0 0 = 0 := by unfold rotN; simp
  rw [h0] at r0
  rcases Nat.lt_or_ge (mostN n) l.length with hlt | hge
  · have := snakes_mem hm ((moved_path h (by omega) hb).trans hp) ((moved_snake h (by omega) hb false).trans hs) r0 (mostN n) (by rw [moved_len]; omega)
    rw [no_more hn1 h4] at this
    cases this
  · exact hge
theorem even_sum : ∀ x : List Int, (∀ t : Nat, rd x (t : Int) % 2 = 0) → sumL x % 2 = 0 := by
  intro x
  induction x with
  | nil => intro _; rfl
  | cons a x ih =>
    intro h
    have h0 := h 0
    have h1 := ih (fun t => by have := h (t + 1); simpa [rd] using this)
    have : sumL (a :: x) = a + sumL x := rfl
    simp [rd] at h0
    omega
theorem coil_snake {l : List Int} (h : snakeB l true = true) (hl : 0 < l.length) : snakeB (l.take (l.length - 1)) false = true := by
  rw [snake_iff]
  intro i j hij hj
  rw [List.length_take] at hj
  rw [rd_take (by omega) (by omega), rd_take (by omega) (by omega)]
  unfold snakeB at h
  have h1 := (okFrom_iff _ _ _).1 ((okFrom_iff _ _ _).1 h i (by omega) (by omega)) j (by omega) (by omega)
  unfold pairOk at h1
  rw [show decide (j = l.length - 1) = false from decide_eq_false (by omega), Bool.and_false, Bool.or_false] at h1
  simpa using h1
theorem take_fine {n : Nat} {l : List Int} (h : Fine n l) (m : Nat) (hm : 0 < m) : Fine n (l.take m) := by
  have := h.pos
  have := h.len
  exact ⟨h.n1, h.n2, by rw [List.length_take]; omega, by rw [List.length_take]; omega, fun x hx => h.all x (List.mem_of_mem_take hx)⟩
theorem coil_most {n : Nat} {l : List Int} (h : Fine n l) (h4 : n ≤ 4) (hp : pathB l = true) (hc : closedB l = true) (hs : snakeB l true = true) : 2 ≤ n ∧ l.length ≤ 2 * (mostN n / 2 + mostN n % 2) := by
  have hn1 := h.n1
  have h4c := (closed_nx hc).1
  have hlen := h.len
  have h1 := snake_most (take_fine h (l.length - 1) (by omega)) h4 (path_take hp _ (by omega)) (coil_snake hs h.pos)
  rw [List.length_take, Nat.min_eq_left (by omega)] at h1
  have h2 := even_sum (changesL n l) (fun t => changes_even h hp hc t)
  rw [sum_changes h hp, if_pos hc] at h2
  rcases (show n = 1 ∨ n = 2 ∨ n = 3 ∨ n = 4 by omega) with rfl | rfl | rfl | rfl <;> simp [mostN] at h1 hlen ⊢ <;> omega
end Go.Proofs.Ytnakkdaeehglnaa.P
