/- Several texts of this session in one file, in build order: Pf23, NormF, HConcat, HNormal, Pf33, Pf20, Pf39, FBase. -/
import Derived.Test.YtnakkdaeehglnaaJB1
import Derived.Deep.DeepMust
namespace Go.Proofs.Ytnakkdaeehglnaa.P
open Go.RowKit Go.Proofs.YtnakkdaeehglnaaW.PrintWords Go.Proofs.YtnakkdaeehglnaaW.PrintLast Go.Proofs.YtnakkdaeehglnaaW.PrintMore
attribute [local go_sem] max2_int min2_int max_two min_two max_three min_three max_four min_four   -- for this text's walks alone
set_option linter.unusedVariables false
set_option linter.unusedSimpArgs false

/-! ### flash_Gray: function 23 -/
def flash_Gray.f (a0 : Int) (a1 : Int) : Option (Int × Int) := (flash_sized.f a0).bind fun t128 => (if t128 = true then (if a1 < 0 then (some (0, 2)) else (if 0 ≤ a0 then (if a1 ≥ (shl .i64 1 a0) then (some (0, 2)) else (some (Go.bits .xor .i64 a1 (wrap64 (Int.tdiv a1 2)), 0))) else (none))) else (some (0, 2)))
set_option maxHeartbeats 8000000 in
set_option maxRecDepth 100000 in
theorem flash_Gray.calls (a0 : Int) (a1 : Int) (r1 : Int) (r2 : Int) (w : World) (h : flash_Gray.f a0 a1 = some (r1, r2)) :
    Calls Try.prog 23 #[.int .i64 a0, .int .i64 a1] w fun e w' => e = .returned (.tuple #[.int .i64 r1, .int .i64 r2]) ∧ Drawn0 w w' := by
  have H : ((flash_sized.f a0).bind fun t128 => (if t128 = true then (if a1 < 0 then (some (0, 2)) else (if 0 ≤ a0 then (if a1 ≥ (shl .i64 1 a0) then (some (0, 2)) else (some (Go.bits .xor .i64 a1 (wrap64 (Int.tdiv a1 2)), 0))) else (none))) else (some (0, 2)))) = some (r1, r2) := h
  clear h
  replace H := Option.bind_eq_some_iff.mp H
  obtain ⟨t128, A30, H⟩ := H
  replace H : (if t128 = true then (if a1 < 0 then (some (0, 2)) else (if 0 ≤ a0 then (if a1 ≥ (shl .i64 1 a0) then (some (0, 2)) else (some (Go.bits .xor .i64 a1 (wrap64 (Int.tdiv a1 2)), 0))) else (none))) else (some (0, 2))) = some (r1, r2) := H
  have A3 := Aside0.mk A30
  clear A30
  by_cases c4 : t128 = true
  · subst c4
    have H1 : (if a1 < 0 then (some (0, 2)) else (if 0 ≤ a0 then (if a1 ≥ (shl .i64 1 a0) then (some (0, 2)) else (some (Go.bits .xor .i64 a1 (wrap64 (Int.tdiv a1 2)), 0))) else (none))) = some (r1, r2) := by rw [if_pos rfl] at H; exact H
    clear H
    have H := H1
    clear H1
    by_cases c5 : a1 < 0
    · rw [if_pos c5] at H
      have c5b0 : decide (a1 < 0) = true := decide_eq_true c5
      clear c5
      simp only [Option.some.injEq, Prod.mk.injEq] at H
      obtain ⟨rfl, rfl⟩ := H
      go_enter Try.func23, Try.ntmps23
      go_wp2_with (first | ((with_reducible refine gate_callee (f := 41) rfl ?_); refine goesL_ (some 7) rfl rfl Try.func41 (by kernel_rfl) rfl #[.int .i64 a0] rfl (by (try simp only [List.map_toArray, List.map_cons, List.map_nil]); first | done | rfl | (simp only [List.length_drop, List.length_take]; rfl)) ?_; (with_reducible refine (flash_sized.calls a0 true _ A3.out).mono ?_); rintro e w' ⟨rfl, ⟨nd, rfl⟩⟩; refine ⟨_, rfl, ?_⟩))
      go_ret2
      exact ⟨by first | rfl | (simp; done) | (simp [*]; done), by repeat (first | exact Drawn0.refl _ | apply Drawn0.step)⟩
    · rw [if_neg c5] at H
      have c5b0 : decide (a1 < 0) = false := decide_eq_false c5
      clear c5
      by_cases c6 : 0 ≤ a0
      · rw [if_pos c6] at H
        have c6b0 := eq_true c6
        have c6b1 : decide (0 ≤ a0) = true := decide_eq_true c6
        clear c6
        obtain ⟨ji7, hji7⟩ : ∃ j_ : Int, (shl .i64 1 a0) = j_ := ⟨_, rfl⟩
        replace H : (if a1 ≥ (ji7) then (some (0, 2)) else (some (Go.bits .xor .i64 a1 (wrap64 (Int.tdiv a1 2)), 0))) = some (r1, r2) := by first | (rw [hji7] at H; exact H) | (simp only [hji7] at H ⊢; exact H)
        (try rw [hji7] at A3)
        have hji7_ : (IntKind.i64.wrap (1 * 2 ^ min a0.toNat 64)) = ji7 := hji7
        have hji7z : a0 ≤ 64 → (IntKind.i64.wrap (1 * 2 ^ a0.toNat)) = ji7 := shl_small hji7
        have hji7u : (IntKind.i64.wrap (2 ^ min a0.toNat 64)) = ji7 := by have h_ := hji7_; rw [Int.one_mul] at h_; exact h_
        have hji7v : a0 ≤ 64 → (IntKind.i64.wrap (2 ^ a0.toNat)) = ji7 := fun hle_ => by have h_ := hji7z hle_; rw [Int.one_mul] at h_; exact h_
        have hji7y : (wrap64 (1 * 2 ^ min a0.toNat 64)) = ji7 := (i64_w _).symm.trans hji7_
        have hji7x : a0 ≤ 64 → (wrap64 (1 * 2 ^ a0.toNat)) = ji7 := fun h_ => (i64_w _).symm.trans (hji7z h_)
        by_cases c8 : a1 ≥ (ji7)
        · rw [if_pos c8] at H
          have c8b0 : decide ((ji7) ≤ a1) = true := decide_eq_true c8
          clear c8
          simp only [Option.some.injEq, Prod.mk.injEq] at H
          obtain ⟨rfl, rfl⟩ := H
          go_enter Try.func23, Try.ntmps23
          go_wp2_with (first | ((with_reducible refine gate_callee (f := 41) rfl ?_); refine goesL_ (some 7) rfl rfl Try.func41 (by kernel_rfl) rfl #[.int .i64 a0] rfl (by (try simp only [List.map_toArray, List.map_cons, List.map_nil]); first | done | rfl | (simp only [List.length_drop, List.length_take]; rfl)) ?_; (with_reducible refine (flash_sized.calls a0 true _ A3.out).mono ?_); rintro e w' ⟨rfl, ⟨nd, rfl⟩⟩; refine ⟨_, rfl, ?_⟩))
          go_ret2
          exact ⟨by first | rfl | (simp; done) | (simp only [← hji7] <;> (first | rfl | simp)) | (simp [*]; done), by repeat (first | exact Drawn0.refl _ | apply Drawn0.step)⟩
        · rw [if_neg c8] at H
          have c8b0 : decide ((ji7) ≤ a1) = false := decide_eq_false c8
          clear c8
          simp only [Option.some.injEq, Prod.mk.injEq] at H
          obtain ⟨rfl, rfl⟩ := H
          go_enter Try.func23, Try.ntmps23
          go_wp2_with (first | ((with_reducible refine gate_callee (f := 41) rfl ?_); refine goesL_ (some 7) rfl rfl Try.func41 (by kernel_rfl) rfl #[.int .i64 a0] rfl (by (try simp only [List.map_toArray, List.map_cons, List.map_nil]); first | done | rfl | (simp only [List.length_drop, List.length_take]; rfl)) ?_; (with_reducible refine (flash_sized.calls a0 true _ A3.out).mono ?_); rintro e w' ⟨rfl, ⟨nd, rfl⟩⟩; refine ⟨_, rfl, ?_⟩))
          go_ret2
          exact ⟨by first | rfl | (simp; done) | (simp only [← hji7] <;> (first | rfl | simp)) | (simp [*]; done), by repeat (first | exact Drawn0.refl _ | apply Drawn0.step)⟩
      · rw [if_neg c6] at H
        exact absurd H (by simp)
  · replace c4 := Bool.eq_false_iff.mpr c4
    subst c4
    have H1 : (some (0, 2)) = some (r1, r2) := by rw [if_neg (show ¬ (false = true) by decide)] at H; exact H
    clear H
    have H := H1
    clear H1
    simp only [Option.some.injEq, Prod.mk.injEq] at H
    obtain ⟨rfl, rfl⟩ := H
    go_enter Try.func23, Try.ntmps23
    go_wp2_with (first | ((with_reducible refine gate_callee (f := 41) rfl ?_); refine goesL_ (some 7) rfl rfl Try.func41 (by kernel_rfl) rfl #[.int .i64 a0] rfl (by (try simp only [List.map_toArray, List.map_cons, List.map_nil]); first | done | rfl | (simp only [List.length_drop, List.length_take]; rfl)) ?_; (with_reducible refine (flash_sized.calls a0 false _ A3.out).mono ?_); rintro e w' ⟨rfl, ⟨nd, rfl⟩⟩; refine ⟨_, rfl, ?_⟩))
    go_ret2
    exact ⟨by first | rfl | (simp; done) | (simp [*]; done), by repeat (first | exact Drawn0.refl _ | apply Drawn0.step)⟩

end Go.Proofs.Ytnakkdaeehglnaa.P

set_option linter.unusedSimpArgs false
set_option linter.unusedVariables false
namespace Go.Proofs.Ytnakkdaeehglnaa.P
open Go.Lib Go.RowKit Go.Proofs.YtnakkdaeehglnaaW.PrintWords Go.Proofs.YtnakkdaeehglnaaW.PrintMore Go.Proofs.Ytnakkdaeehglnaa.Kit

def xr (s z : Int) : Int := ((s.toNat ^^^ z.toNat : Nat) : Int)
def litB (x t : Int) : Bool := (x.toNat &&& 2 ^ t.toNat) != 0
def halves (x : Int) (g : List Int) : List (List Int) := [g.filter (litB x), g.filter (fun t => !litB x t)].filter (fun p => decide (0 < p.length))
def refine1 (x : Int) (gs : List (List Int)) : List (List Int) := gs.flatMap (halves x)
def ups (n : Nat) : List Int := (List.range n).map fun (t : Nat) => (t : Int)
def groupsF (n : Nat) (z : Int) (l : List Int) : List (List Int) := l.foldl (fun gs s => refine1 (xr s z) gs) [ups n]
def toAt (n : Nat) (order : List Int) (i : Nat) : List Int := (List.range i).foldl (fun acc (k : Nat) => acc.set (rd order (k : Int)).toNat (k : Int)) (List.replicate n 0)
def outX (tb : List Int) (x t : Nat) : Nat := (List.range t).foldl (fun acc (t : Nat) => acc ||| (x >>> t &&& 1) <<< (rd tb (t : Int)).toNat) 0
/-- What normal gives. -/
def normalL (n : Nat) (l : List Int) : List Int :=
  let order := (groupsF n (rd l 0) l).flatten
  l.map fun s => (outX (toAt n order n) (s.toNat ^^^ (rd l 0).toNat) n : Int)
def flash_normal.f (n : Int) (l : List Int) : Option (List Int) :=
  if (1 ≤ n ∧ n ≤ 12 ∧ 0 < l.length ∧ l.length ≤ 5000) ∧ l.all small = true then some (normalL n.toNat l) else none

theorem halves_perm (x : Int) (g : List Int) : (halves x g).flatten.Perm g := by
  have h := List.filter_append_perm (litB x) g
  unfold halves
  by_cases h1 : 0 < (g.filter (litB x)).length <;> by_cases h2 : 0 < (g.filter (fun t => !litB x t)).length
  · simpa [List.filter_cons, h1, h2] using h
  · have e : g.filter (fun t => !litB x t) = [] := List.eq_nil_of_length_eq_zero (by omega)
    rw [e, List.append_nil] at h
    rw [e]
    simpa [List.filter_cons, h1] using h
  · have e : g.filter (litB x) = [] := List.eq_nil_of_length_eq_zero (by omega)
    rw [e, List.nil_append] at h
    rw [e]
    simpa [List.filter_cons, h2] using h
  · have e : g.filter (litB x) = [] := List.eq_nil_of_length_eq_zero (by omega)
    have e2 : g.filter (fun t => !litB x t) = [] := List.eq_nil_of_length_eq_zero (by omega)
    rw [e, e2] at h
    rw [e, e2]
    simpa [List.filter_cons] using h
theorem halves_len (x : Int) (g : List Int) : (halves x g).length ≤ 2 := by
  unfold halves
  exact Nat.le_trans (List.length_filter_le _ _) (by simp)
theorem halves_pos {x : Int} {g p : List Int} (h : p ∈ halves x g) : 0 < p.length := by
  unfold halves at h
  exact of_decide_eq_true (List.mem_filter.1 h).2
/-- The groups are made of all tubes, and none is empty. -/
structure Good (n : Nat) (gs : List (List Int)) : Prop where
  perm : gs.flatten.Perm (ups n)
  pos : ∀ g, g ∈ gs → 0 < g.length
theorem flatMap_perm (x : Int) : ∀ gs : List (List Int), (refine1 x gs).flatten.Perm gs.flatten := by
  intro gs
  induction gs with
  | nil => exact List.Perm.refl _
  | cons g gs ih =>
    unfold refine1 at *
    rw [List.flatMap_cons, List.flatten_append, List.flatten_cons]
    exact (halves_perm x g).append ih
theorem Good.step {n : Nat} {gs : List (List Int)} (h : Good n gs) (x : Int) : Good n (refine1 x gs) := by
  refine ⟨(flatMap_perm x gs).trans h.perm, fun p hp => ?_⟩
  obtain ⟨g, _, hg⟩ := List.mem_flatMap.1 hp
  exact halves_pos hg
theorem Good.init {n : Nat} (hn : 1 ≤ n) : Good n [ups n] := ⟨by simp, fun g hg => by rw [List.mem_singleton.1 hg]; unfold ups; rw [List.length_map, List.length_range]; exact hn⟩
theorem groupsF_good {n : Nat} (hn : 1 ≤ n) (z : Int) (l : List Int) : Good n (groupsF n z l) := by
  unfold groupsF
  have : ∀ gs, Good n gs → Good n (l.foldl (fun gs s => refine1 (xr s z) gs) gs) := by
    induction l with
    | nil => intro gs h; exact h
    | cons s l ih => intro gs h; exact ih _ (h.step _)
  exact this _ (Good.init hn)
theorem ups_len (n : Nat) : (ups n).length = n := by unfold ups; rw [List.length_map, List.length_range]
theorem Good.len {n : Nat} {gs : List (List Int)} (h : Good n gs) : gs.flatten.length = n := h.perm.length_eq.trans (ups_len n)
theorem pos_len : ∀ gs : List (List Int), (∀ g, g ∈ gs → 0 < g.length) → gs.length ≤ gs.flatten.length := by
  intro gs
  induction gs with
  | nil => intro _; exact Nat.le_refl _
  | cons g gs ih =>
    intro h
    have h1 := h g List.mem_cons_self
    have h2 := ih (fun g' hg => h g' (List.mem_cons_of_mem _ hg))
    rw [List.flatten_cons, List.length_append, List.length_cons]
    omega
theorem Good.count {n : Nat} {gs : List (List Int)} (h : Good n gs) : gs.length ≤ n := by
  have := pos_len gs h.pos
  rw [h.len] at this
  exact this
theorem Good.range {n : Nat} {gs : List (List Int)} (h : Good n gs) {g : List Int} (hg : g ∈ gs) {t : Int} (ht : t ∈ g) : 0 ≤ t ∧ t < n := by
  have h1 := h.perm.mem_iff.1 (List.mem_flatten.2 ⟨g, hg, ht⟩)
  unfold ups at h1
  obtain ⟨m, hm, rfl⟩ := List.mem_map.1 h1
  have := List.mem_range.1 hm
  omega
theorem Good.glen {n : Nat} {gs : List (List Int)} (h : Good n gs) {g : List Int} (hg : g ∈ gs) : g.length ≤ n := by
  have h1 := h.len
  obtain ⟨a, b, rfl⟩ := List.append_of_mem hg
  rw [List.flatten_append, List.flatten_cons, List.length_append, List.length_append] at h1
  omega
theorem Good.order {n : Nat} {gs : List (List Int)} (h : Good n gs) (i : Nat) (hi : i < n) : 0 ≤ rd gs.flatten (i : Int) ∧ rd gs.flatten (i : Int) < n := by
  have hl := h.len
  rw [rd_get _ i (by omega)]
  have h1 := h.perm.mem_iff.1 (List.getElem_mem (l := gs.flatten) (n := i) (by omega))
  unfold ups at h1
  obtain ⟨m, hm, e⟩ := List.mem_map.1 h1
  have := List.mem_range.1 hm
  omega
theorem toAt_len (n : Nat) (order : List Int) (i : Nat) : (toAt n order i).length = n := by
  unfold toAt
  induction i with
  | zero => simp
  | succ i ih => rw [List.range_succ, List.foldl_append, List.foldl_cons, List.foldl_nil, List.length_set]; exact ih
theorem toAt_succ (n : Nat) (order : List Int) (i : Nat) : toAt n order (i + 1) = (toAt n order i).set (rd order (i : Int)).toNat (i : Int) := by
  unfold toAt
  rw [List.range_succ, List.foldl_append, List.foldl_cons, List.foldl_nil]
theorem toAt_range (n : Nat) (order : List Int) (i : Nat) (hi : i ≤ n) (hn : 0 < n) (t : Int) : 0 ≤ rd (toAt n order i) t ∧ rd (toAt n order i) t < n := by
  have key : ∀ i, i ≤ n → ∀ x, x ∈ toAt n order i → 0 ≤ x ∧ x < (n : Int) := by
    intro i
    induction i with
    | zero => intro _ x hx; unfold toAt at hx; have := List.eq_of_mem_replicate hx; omega
    | succ i ih =>
      intro hi x hx
      rw [toAt_succ] at hx
      rcases List.mem_or_eq_of_mem_set hx with hx | rfl
      · exact ih (by omega) x hx
      · omega
  unfold rd
  rw [List.getD_eq_getElem?_getD]
  cases hx : (toAt n order i)[t.toNat]? with
  | none => simp; omega
  | some x => exact key i hi x (List.mem_of_getElem? hx)
theorem outX_succ (tb : List Int) (x t : Nat) : outX tb x (t + 1) = outX tb x t ||| (x >>> t &&& 1) <<< (rd tb (t : Int)).toNat := by
  unfold outX
  rw [List.range_succ, List.foldl_append, List.foldl_cons, List.foldl_nil]
theorem one_shift {b k : Nat} (hb : b &&& 1 = b) (hk : k < 12) : b <<< k < 4096 := by
  have : b ≤ 1 := by rw [← hb]; exact Nat.and_le_right
  rw [Nat.shiftLeft_eq]
  have h2 : 2 ^ k ≤ 2 ^ 11 := Nat.pow_le_pow_right (by decide) (by omega)
  have h3 : b * 2 ^ k ≤ 1 * 2 ^ k := Nat.mul_le_mul_right _ this
  omega
theorem outX_lt (tb : List Int) (x : Nat) (hto : ∀ t : Int, 0 ≤ rd tb t ∧ rd tb t < 12) (t : Nat) : outX tb x t < 4096 := by
  induction t with
  | zero => unfold outX; simp
  | succ t ih =>
    rw [outX_succ]
    have h1 := one_shift (b := x >>> t &&& 1) (k := (rd tb (t : Int)).toNat) (by rw [Nat.and_assoc]; rfl) (by have := hto (t : Int); omega)
    exact Nat.or_lt_two_pow (n := 12) ih h1
theorem take_foldl_succ (n : Nat) (z : Int) (l : List Int) (i : Nat) (hi : i < l.length) : groupsF n z (l.take (i + 1)) = refine1 (xr l[i] z) (groupsF n z (l.take i)) := by
  unfold groupsF
  rw [List.take_succ_eq_append_getElem hi, List.foldl_append, List.foldl_cons, List.foldl_nil]
theorem take_flatMap_succ (x : Int) (gs : List (List Int)) (j : Nat) (hj : j < gs.length) : refine1 x (gs.take (j + 1)) = refine1 x (gs.take j) ++ halves x gs[j] := by
  unfold refine1
  rw [List.take_succ_eq_append_getElem hj, List.flatMap_append, List.flatMap_singleton]
theorem refine1_len (x : Int) (gs : List (List Int)) (j : Nat) : (refine1 x (gs.take j)).length ≤ 2 * gs.length := by
  have key : ∀ gs : List (List Int), (refine1 x gs).length ≤ 2 * gs.length := by
    intro gs
    induction gs with
    | nil => exact Nat.le_refl _
    | cons g gs ih =>
      have := halves_len x g
      unfold refine1 at *
      rw [List.flatMap_cons, List.length_append, List.length_cons]
      omega
  refine Nat.le_trans (key _) ?_
  rw [List.length_take]
  omega
theorem take_filter_succ (p : Int → Bool) (g : List Int) (k : Nat) (hk : k < g.length) : (g.take (k + 1)).filter p = (g.take k).filter p ++ if p g[k] = true then [g[k]] else [] := by
  rw [List.take_succ_eq_append_getElem hk, List.filter_append]
  congr 1
  cases h : p g[k] <;> simp [h]
theorem ups_succ (t : Nat) : ups (t + 1) = ups t ++ [(t : Int)] := by
  unfold ups
  rw [List.range_succ, List.map_append]
  rfl
end Go.Proofs.Ytnakkdaeehglnaa.P

set_option linter.unusedSimpArgs false
set_option linter.unusedVariables false
namespace Go.Proofs.Ytnakkdaeehglnaa.P
open Go.Lib Go.RowKit Go.Proofs.YtnakkdaeehglnaaW.PrintWords Go.Proofs.YtnakkdaeehglnaaW.PrintLast Go.Proofs.YtnakkdaeehglnaaW.PrintMore Go.Proofs.Ytnakkdaeehglnaa.Kit
attribute [local go_sem] max2_int min2_int max_two min_two max_three min_three max_four min_four

/-- How many stand in the first i rows. -/
def flatLen (gs : List (List Int)) (i : Nat) : Nat := (gs.take i).flatten.length
theorem rows_get {w : World} {A : Option Addr} {xs : List (List Int)} (h : Kd.C (Kd.slice 3 (Kd.int .i64)) w A xs.length xs) (i : Nat) (hi : i < xs.length) :
    ∃ ad A0 c0, A = some ad ∧ w.cell? (ad.add i) = some (.slice A0 xs[i].length c0) ∧ xs[i].length ≤ c0 ∧ (Kd.int .i64).C w A0 xs[i].length xs[i] := by
  obtain ⟨ad, c, e, _, hK, hc0⟩ := Kd.C_get h ([] : List Int) (i : Int) (by omega) (by omega)
  have hc : ∀ j u, c[j]? = some u → w.cell? (ad.add (i * 1 + j)) = some u := hc0
  obtain ⟨A0, c0, rfl, l0, g0⟩ := hK
  have hq := hc 0 _ rfl
  rw [Nat.mul_one, Nat.add_zero] at hq
  have hgd : xs.getD ((i : Int).toNat) [] = xs[i] := by simp [List.getElem?_eq_getElem hi]
  rw [hgd] at hq l0 g0
  exact ⟨ad, A0, c0, e, hq, l0, g0⟩
section
set_option maxHeartbeats 4000000
set_option maxRecDepth 100000
/-- Grow at nil. -/
theorem grow_nil (n : Nat) (hn : n ≤ 100000) (w : World) :
    Calls Try.prog 78 #[.slice none 0 0, .int .i64 (n : Int)] w fun e w' => ∃ v, e = .returned v ∧ Kd.R (Kd.int .i64) 3 w' w.heap.size (fun _ => True) v [] ∧ Below w.heap.size w w' := by
  have HB := Aside0.mk (Below.refl w.heap.size w)
  have b0 : decide ((n : Int) < 0) = false := decide_eq_false (by omega)
  have hw : wrap64 (n : Int) = n := w64 (by omega) (by omega)
  have HW := Aside0.mk hw
  have HN := Aside0.mk hn
  clear hn
  rcases Nat.eq_zero_or_pos n with h0 | h0
  · subst h0
    go_enter Try.func78, Try.ntmps78
    go_wp2
    go_ret
    exact ⟨_, rfl, Kd.R_nil _ _ _ _ _, HB.out⟩
  · have b1 : decide (0 < (n : Int)) = true := decide_eq_true (by omega)
    have b2 : decide (0 < n) = true := decide_eq_true h0
    have b3 : decide (0 < wrap64 (n : Int)) = true := by rw [hw]; exact b1
    clear h0 hw
    go_enter Try.func78, Try.ntmps78
    have hcut0 : ∀ (A : Option Addr) (m c : Nat), m ≤ c → ∀ W : World, (Instr.slice 22 (.slice A m c) none (some (.int .i64 0)) none).run Try.prog W = .ok (.slice A 0 c) W := by
      intro A m c hmc W
      obtain ⟨i0, hi0, _, _, _⟩ := info_parts info3
      have := cut_to (P := Try.prog) 22 3 .i64 Try.underlying22 hi0 A m c 0 (by omega) (by omega) hmc W
      simpa using this
    go_wp2_with ((with_reducible refine gate_builtin (b := .append) (xs := #[.tmp 20, .tmp 21]) rfl ?_); go_must (at_builtin; refine Kd.R_append_zeros (Kd.int .i64) (w0 := w) w.heap.size rfl (.tmp 20) (.tmp 21) 22 3 3 (.int .i64 0) 8 rfl Try.underlying22 (k := .i64) Try.underlying3 info3 rfl (by decide) (by omega) (.slice none 0 0) [] 0 (kx := .i64) (wrap64 (n : Int)) (fun _ => True) rfl rfl rfl (fun _ _ => trivial) (Kd.R_nil _ _ _ _ _) (by rw [HW.out]; omega) HB.out (Nat.le_refl _) (by rw [HW.out]; have := HN.out; simp; omega) ?_; intro v1 w1 ho hb hg hat; rw [List.nil_append, HW.out, Int.toNat_natCast] at ho; obtain ⟨A1, m1, rfl⟩ := Kd.R_slice ho; have hle := (Kd.R_reads' ho).2.1; rw [List.length_replicate] at hle ⊢; have hcut1 := hcut0 A1 n m1 hle; have HO1 := Aside0.mk (Kd.R_take (m := 0) ho (Nat.zero_le _)); have HB1 := Aside0.mk hb; clear ho hb hg hat hle))
    go_ret
    exact ⟨_, rfl, by rw [List.take_zero] at HO1; exact HO1.out, HB1.out⟩
/-- Concat. -/
theorem concat_calls (A : Option Addr) (c : Nat) (gs : List (List Int)) (w : World) (hr : Kd.C (Kd.slice 3 (Kd.int .i64)) w A gs.length gs) (hc : gs.length ≤ c) (hg : gs.length ≤ 100000) (hl : gs.flatten.length ≤ 100000) :
    Calls Try.prog 70 #[.slice A gs.length c] w fun e w' => ∃ v, e = .returned v ∧ Kd.R (Kd.int .i64) 3 w' w.heap.size (fun _ => True) v gs.flatten ∧ Below w.heap.size w w' := by
  have HB := Aside0.mk (Below.refl w.heap.size w)
  have HR := Aside0.mk hr
  have HC := Aside0.mk hc
  have HG := Aside0.mk hg
  have HL := Aside0.mk hl
  have hsum : ∀ i, i ≤ gs.length → (gs.take i).flatten.length ≤ gs.flatten.length := by
    intro i hi
    conv => rhs; rw [← List.take_append_drop i gs, List.flatten_append, List.length_append]
    omega
  have HS := Aside0.mk hsum
  have hnext : ∀ i (h : i < gs.length), (gs.take (i + 1)).flatten = (gs.take i).flatten ++ gs[i] := by
    intro i h
    rw [List.take_succ_eq_append_getElem h, List.flatten_append, List.flatten_singleton]
  have HX := Aside0.mk hnext
  clear hr hc hg hl hsum hnext
  go_enter Try.func70, Try.ntmps70
  go_wp2
  go_loopw [3, 11] (fun v3 v11 w' => ∃ i : Nat, v11 = .int .i64 (i : Int) ∧ v3 = .int .i64 (flatLen gs i : Int) ∧ Aside0 (i ≤ gs.length) ∧ Aside0 (Below w.heap.size w w')) (fun _ v _ => gs.length - (intOf v).toNat)
  case atStart => exact ⟨0, rfl, rfl, ⟨Nat.zero_le _⟩, ⟨HB.out⟩⟩
  case round =>
    clear HB
    obtain ⟨i, rfl, rfl, HI, HB⟩ := hrel
    by_cases ct : (i : Int) < (gs.length : Int)
    · have c1b : decide ((i : Int) < (gs.length : Int)) = true := decide_eq_true ct
      have c1c : decide (i < gs.length) = true := decide_eq_true (by omega)
      have hi : i < gs.length := by omega
      have Hi := Aside0.mk hi
      have p0 : (0 : Int) ≤ i := by omega
      obtain ⟨ad, A1, c1, e1, hx1, hl1, hc1⟩ := rows_get (Kd.C_below HR.out HB.out) i hi
      have hX := HX.out i hi
      have hS := HS.out (i + 1) (by omega)
      have hlen : flatLen gs (i + 1) = flatLen gs i + gs[i].length := by unfold flatLen; rw [hX, List.length_append]
      have hbd : (flatLen gs i : Int) + (gs[i].length : Int) ≤ 100000 := by have := HL.out; have : flatLen gs (i + 1) ≤ gs.flatten.length := hS; omega
      generalize gs[i] = g at hx1 hl1 hc1 hlen hbd
      have HLn := Aside0.mk hlen
      have hw1 : wrap64 ((flatLen gs i : Int) + (g.length : Int)) = (flatLen gs i : Int) + (g.length : Int) := w64 (by omega) (by omega)
      have HW1 := Aside0.mk hw1
      have b1 : decide (wrap64 ((flatLen gs i : Int) + (g.length : Int)) < 0) = false := by rw [hw1]; exact decide_eq_false (by omega)
      have q0 := eq_true ct
      cases e1
      clear hX hS hlen hi ct hbd hl1 hc1 hw1
      go_wp2
      go_roundw
      case rel => exact ⟨i + 1, by rw [w64 (x := (i : Int) + 1) (by omega) (by have := HG.out; have := Hi.out; omega)]; rfl, by rw [HLn.out, HW1.out]; rfl, ⟨by have := Hi.out; omega⟩, ⟨HB.out⟩⟩
      case measure => rw [w64 (x := (i : Int) + 1) (by omega) (by have := HG.out; have := Hi.out; omega)]; have := Hi.out; simp [intOf]; omega
    · have c1b : decide ((i : Int) < (gs.length : Int)) = false := decide_eq_false ct
      have c1c : decide (i < gs.length) = false := decide_eq_false (by omega)
      have hi : i = gs.length := by have := HI.out; omega
      subst hi
      have hfl : flatLen gs gs.length = gs.flatten.length := by unfold flatLen; rw [List.take_length]
      have HFL := Aside0.mk hfl
      have hgrow := fun W => grow_nil (flatLen gs gs.length) (by rw [hfl]; exact HL.out) W
      clear hfl
      have HRw := Aside0.mk (Kd.C_below HR.out HB.out)
      clear ct HI
      go_wp2_with (go_at_call 78; (with_reducible refine (hgrow _).mono ?_); rintro e w1 ⟨v, rfl, ho, hb⟩; have HO1 := Aside0.mk (Kd.R_lower ho HB.out.size); have HB1 := Aside0.mk (below_then HB.out HB.out.size hb); have HRv := Aside0.mk (Kd.C_below HRw.out hb); clear ho hb)
      go_loopw [6, 27] (fun v6 v27 w' => ∃ i : Nat, v27 = .int .i64 (i : Int) ∧ Aside0 (i ≤ gs.length) ∧ Aside0 (Kd.R (Kd.int .i64) 3 w' w.heap.size (fun _ => True) v6 (gs.take i).flatten) ∧ Aside0 (Below w.heap.size w w')) (fun _ v _ => gs.length - (intOf v).toNat)
      case atStart => exact ⟨0, rfl, ⟨Nat.zero_le _⟩, ⟨HO1.out⟩, ⟨HB1.out⟩⟩
      case round =>
        clear HO1 HB1 HRv HB HRw
        obtain ⟨i, rfl, HI, HO, HB⟩ := hrel
        by_cases ct : (i : Int) < (gs.length : Int)
        · have c1b : decide ((i : Int) < (gs.length : Int)) = true := decide_eq_true ct
          have c1c : decide (i < gs.length) = true := decide_eq_true (by omega)
          have hi : i < gs.length := by omega
          have Hi := Aside0.mk hi
          have p0 : (0 : Int) ≤ i := by omega
          obtain ⟨ad, A1, c1, e1, hx1, hl1, hc1⟩ := rows_get (Kd.C_below HR.out HB.out) i hi
          have hX := HX.out i hi
          have hS := HS.out (i + 1) (by omega)
          rw [hX, List.length_append] at hS
          have HXn := Aside0.mk hX
          have hSL : (gs.take i).flatten.length + gs[i].length ≤ 100000 := Nat.le_trans hS HL.out
          generalize gs[i] = g at hx1 hl1 hc1 HXn hSL
          have HSL := Aside0.mk hSL
          have HC1 := Aside0.mk hc1
          have q0 := eq_true ct
          cases e1
          clear hX hS hi ct hl1 hc1 hSL
          go_wp2_with ((with_reducible refine gate_builtin (b := .append) (xs := #[.tmp 31, .tmp 32]) rfl ?_); go_must (at_builtin; refine Kd.R_append_rows (Kd.int .i64) (w0 := w) w.heap.size rfl (.tmp 31) (.tmp 32) 22 3 (.int .i64 0) 8 rfl Try.underlying22 info3 rfl (by decide) (by omega) u6 (gs.take i).flatten g A1 g.length c1 (fun _ => True) (fun _ => False) rfl rfl HO.out HC1.out (fun _ _ h => h) (fun _ h => h.elim) (fun _ _ => trivial) HB.out HB.out.size (by have := HSL.out; omega) ?_; intro v7 w7 ho hb hg hat; rw [← HXn.out] at ho; have HO7 := Aside0.mk ho; have HB7 := Aside0.mk hb; clear ho hb hg hat))
          go_roundw
          case rel => exact ⟨i + 1, by rw [w64 (x := (i : Int) + 1) (by omega) (by have := HG.out; have := Hi.out; omega)]; rfl, ⟨by have := Hi.out; omega⟩, ⟨HO7.out⟩, ⟨HB7.out⟩⟩
          case measure => rw [w64 (x := (i : Int) + 1) (by omega) (by have := HG.out; have := Hi.out; omega)]; have := Hi.out; simp [intOf]; omega
        · have c1b : decide ((i : Int) < (gs.length : Int)) = false := decide_eq_false ct
          have c1c : decide (i < gs.length) = false := decide_eq_false (by omega)
          have hi : i = gs.length := by have := HI.out; omega
          subst hi
          rw [List.take_length] at HO
          clear ct HI
          go_wp2
          go_ret
          exact ⟨_, rfl, HO.out, HB.out⟩
end
end Go.Proofs.Ytnakkdaeehglnaa.P

set_option linter.unusedSimpArgs false
set_option linter.unusedVariables false
namespace Go.Proofs.Ytnakkdaeehglnaa.P
open Go.Lib Go.RowKit Go.Proofs.YtnakkdaeehglnaaW.PrintWords Go.Proofs.YtnakkdaeehglnaaW.PrintLast Go.Proofs.YtnakkdaeehglnaaW.PrintMore Go.Proofs.Ytnakkdaeehglnaa.Kit
attribute [local go_sem] max2_int min2_int max_two min_two max_three min_three max_four min_four

theorem C_one {w : World} {b n c : Nat} {A : Option Addr} {g : List Int} (hb : w.heap[b]? = some (.cells #[.slice A g.length c] 22 (0, 0))) (hc : g.length ≤ c) (hC : Kd.C (Kd.int .i64) w A g.length g) :
    Kd.C (Kd.slice 3 (Kd.int .i64)) w (some ⟨b, 0, none⟩) [g].length [g] := by
  refine ⟨rfl, by rw [List.length_singleton]; decide, fun _ => ⟨_, rfl, fun j p hj => ?_⟩⟩
  cases j with
  | zero =>
    simp at hj
    subst hj
    refine ⟨[.slice A g.length c], rfl, ⟨A, c, rfl, hc, hC⟩, fun i u hu => ?_⟩
    cases i with
    | zero =>
      simp at hu
      subst hu
      have := blk_cell hb 0
      simpa [Addr.add] using this
    | succ i => simp at hu
  | succ j => simp at hj
theorem xr_small {s z : Int} (hs : small s = true) (hz : small z = true) : small (xr s z) = true := by
  have hs := of_decide_eq_true hs
  have hz := of_decide_eq_true hz
  have := small_xor (a := s.toNat) (b := z.toNat) (by omega) (by omega)
  unfold xr
  exact decide_eq_true (by omega)
theorem xr_bits {s z : Int} (hs : small s = true) (hz : small z = true) : Go.bits .xor .i64 s z = xr s z := by
  have hs := of_decide_eq_true hs
  have hz := of_decide_eq_true hz
  obtain ⟨a, rfl⟩ : ∃ a : Nat, s = a := ⟨s.toNat, by omega⟩
  obtain ⟨b, rfl⟩ : ∃ b : Nat, z = b := ⟨z.toNat, by omega⟩
  unfold xr
  rw [xor64 a b (by omega) (by omega), Int.toNat_natCast, Int.toNat_natCast]
theorem and_bits {x : Int} (hx : small x = true) {m : Nat} (hm : m < 12) : Go.bits .and .i64 x ((2 ^ m : Nat) : Int) = ((x.toNat &&& 2 ^ m : Nat) : Int) := by
  have hx := of_decide_eq_true hx
  have hp : 2 ^ m ≤ 2 ^ 11 := Nat.pow_le_pow_right (by decide) (by omega)
  have hp' : 2 ^ m ≤ 2048 := hp
  obtain ⟨a, rfl⟩ : ∃ a : Nat, x = a := ⟨x.toNat, by omega⟩
  rw [and64 a (2 ^ m) (by omega) (by omega), Int.toNat_natCast]
theorem lit_ne (x : Int) (m : Nat) : (((x.toNat &&& 2 ^ m : Nat) : Int) != 0) = litB x (m : Int) := by
  unfold litB
  rw [Int.toNat_natCast]
  generalize x.toNat &&& 2 ^ m = a
  cases a <;> rfl
theorem out_round {A X b o : Nat} (hA : A < 4096) (hX : X < 65536) (hb : b < 12) (ho : o < 12) :
    Go.bits .or .i64 (A : Int) (wrap64 (Go.bits .and .i64 ((X : Int) / 2 ^ min b 64) 1 * 2 ^ min o 64)) = ((A ||| (X >>> b &&& 1) <<< o : Nat) : Int) := by
  rw [show min b 64 = b from by omega, show min o 64 = o from by omega]
  have h1 : ((X : Int) / 2 ^ b) = ((X >>> b : Nat) : Int) := by rw [Nat.shiftRight_eq_div_pow]; simp
  have hs : X >>> b ≤ X := by rw [Nat.shiftRight_eq_div_pow]; exact Nat.div_le_self _ _
  rw [h1, show (1 : Int) = ((1 : Nat) : Int) from rfl, and64 _ _ (by omega) (by omega)]
  have h2 := one_shift (b := X >>> b &&& 1) (k := o) (by rw [Nat.and_assoc]; rfl) ho
  have h3 : (((X >>> b &&& 1 : Nat) : Int) * 2 ^ o) = (((X >>> b &&& 1) <<< o : Nat) : Int) := by rw [Nat.shiftLeft_eq]; simp
  rw [h3, w64n _ (by omega), or64 _ _ (by omega) (by omega)]
theorem infoS : (Try.prog.info? 22).map (fun i => (i.zero, i.size, i.bytes)) = some (some (.slice none 0 0), 1, 24) := by kernel_rfl
/-- Rows of numbers are none of a row of rows. -/
theorem R_ne_rows {w : World} {base base' : Nat} {ok ok' : Nat → Prop} {v v9 : Value} {xs : List Int} {ys : List (List Int)} (h : Kd.R (Kd.int .i64) 3 w base ok v xs) (h9 : Kd.R (Kd.slice 3 (Kd.int .i64)) 22 w base' ok' v9 ys) :
    Kd.R (Kd.int .i64) 3 w base (fun k => ok k ∧ some k ≠ v9.ownBlock) v xs := by
  obtain ⟨inner, ho⟩ := Kd.R_own h9
  cases e : v9.ownBlock with
  | none => exact Kd.R_mono h (fun k hk => ⟨hk, fun e' => by cases e'⟩)
  | some b =>
    obtain ⟨cells, hc⟩ := own_typed ho b e
    exact Kd.R_mono (Kd.R_types h hc (by decide)) (fun k hk => ⟨hk.1, fun e' => by injection e' with e'; exact hk.2 e'⟩)
section
set_option maxHeartbeats 8000000
set_option maxRecDepth 100000
theorem flash_normal.calls (a0 : Int) (A1 : Option Addr) (c1 : Nat) (l1 : List Int) (r : List Int) (w : World) (hr1 : Kd.C (Kd.int .i64) w A1 l1.length l1) (hc1 : l1.length ≤ c1) (h : flash_normal.f a0 l1 = some r) :
    Calls Try.prog 56 #[.int .i64 a0, .slice A1 l1.length c1] w fun e w' => ∃ v0_ : Value, e = .returned v0_ ∧ Kd.R (Kd.int .i64) 3 w' w.heap.size (fun _ => True) v0_ r ∧ Below w.heap.size w w' := by
  unfold flash_normal.f at h
  split at h
  case isFalse => cases h
  rename_i hs
  injection h with h
  obtain ⟨⟨hn1, hn2, hl0, hl5⟩, hs⟩ := hs
  obtain ⟨n, rfl⟩ : ∃ n : Nat, a0 = n := ⟨a0.toNat, by omega⟩
  rw [Int.toNat_natCast] at h
  obtain ⟨ad, e1, hx0⟩ := Kd.at_int hr1 0 (by omega) (by omega)
  have HX0 := Aside0.mk (show w.cell? (ad.add 0) = some (.int .i64 (rd l1 0)) from hx0)
  have HR1 := Aside0.mk hr1
  have HC1 := Aside0.mk hc1
  have HN := Aside0.mk (show 1 ≤ n ∧ n ≤ 12 by omega)
  have HL := Aside0.mk (show 0 < l1.length ∧ l1.length ≤ 5000 from ⟨hl0, hl5⟩)
  have Hr := Aside0.mk h
  have HS := Aside0.mk hs
  have HB := Aside0.mk (Below.refl w.heap.size w)
  have l0 : (0 : Int) < l1.length := by omega
  replace l0 := eq_true l0
  have l0' : 0 < l1.length := hl0
  replace l0' := eq_true l0'
  clear hr1 hc1 h hs hl0 hl5 hn1 hn2 hx0
  cases e1
  go_enter Try.func56, Try.ntmps56
  go_wp2
  go_loopw [28] (fun v28 w' => ∃ t : Nat, v28 = .int .i64 (t : Int) ∧ Aside0 (t ≤ n) ∧ Aside0 (∃ hv, w'.heap[w.heap.size]? = some (.cells #[hv] 22 (0, 0)) ∧ Kd.R (Kd.int .i64) 3 w' w.heap.size (fun k => k ≠ w.heap.size) hv (ups t)) ∧ Aside0 (Below w.heap.size w w')) (fun v _ => n - (intOf v).toNat)
  case atStart => exact ⟨0, rfl, ⟨Nat.zero_le _⟩, ⟨_, heap_alloc_new w _, Kd.R_nil _ _ _ _ _⟩, ⟨below_alloc HB.out _⟩⟩
  case round =>
    clear HB
    obtain ⟨t, rfl, HT, HV, HB⟩ := hrel
    by_cases ct : (t : Int) < (n : Int)
    · have c1b : decide ((t : Int) < (n : Int)) = true := decide_eq_true ct
      have c1c : decide (t < n) = true := decide_eq_true (by omega)
      have HC := Aside0.mk (show t < n by omega)
      obtain ⟨hv, hblk, hR⟩ := HV.out
      obtain ⟨Av, cv, rfl⟩ := Kd.R_slice hR
      have hul := ups_len t
      have hul1 : (ups t ++ [(t : Int)]).length = t + 1 := by rw [List.length_append, hul]; rfl
      rw [hul] at hblk hR
      have HUL1 := Aside0.mk hul1
      have HBk := Aside0.mk hblk
      have HRv := Aside0.mk hR
      have hcell : wr.cell? ⟨w.heap.size, 0, none⟩ = some (.slice Av t cv) := (blk_cell hblk 0).trans rfl
      have hne : some w.heap.size ≠ (Value.slice Av t cv).ownBlock := fun e => hR.1 _ e.symm rfl
      have HNe := Aside0.mk hne
      clear ct hblk hR hne HV hul hul1
      go_wp2_with ((with_reducible refine gate_builtin (b := .append) (xs := #[.tmp 34, .tmp 36]) rfl ?_); go_must (at_builtin; refine Kd.R_append (Kd.int .i64) (w0 := w) w.heap.size rfl (.tmp 34) (.tmp 36) 22 3 (.int .i64 0) 8 rfl Try.underlying22 info3 rfl (by decide) (by omega) (.slice Av t cv) (ups t) (t : Int) [.int .i64 (t : Int)] (fun k => k ≠ w.heap.size) (fun _ => False) rfl (by first | rfl | (simp; done)) rfl (fun _ hk => hk.elim) (fun k hk => by have := HB.out.size; have := blk_lt HBk.out; omega) HRv.out HB.out HB.out.size (by rw [ups_len]; have := HC.out; have := HN.out; omega) ?_; intro v7 w7 ho hb hg hat; obtain ⟨A7, c7, rfl⟩ := Kd.R_slice ho; rw [HUL1.out] at ho ⊢; have hbk7 := blk_grown HBk.out hg HNe.out; have hcell7 := (blk_cell hbk7 0).trans rfl; have hfz7 := blk_frozen hbk7 0; have HBk7 := Aside0.mk hbk7; have HO7 := Aside0.mk ho; have HB7 := Aside0.mk hb; clear ho hb hg hat hbk7))
      go_roundw
      case rel => exact ⟨t + 1, by rw [w64 (x := (t : Int) + 1) (by omega) (by have := HN.out; have := HC.out; omega)]; rfl, ⟨by have := HC.out; omega⟩, ⟨_, (blk_set HBk7.out 0 _).trans rfl, by rw [ups_succ]; exact Kd.R_far HO7.out (fun k hk => hk) _⟩, ⟨HB7.out.setCell (Nat.le_refl _) _⟩⟩
      case measure => rw [w64 (x := (t : Int) + 1) (by omega) (by have := HN.out; have := HC.out; omega)]; have := HC.out; simp [intOf]; omega
    · have c1b : decide ((t : Int) < (n : Int)) = false := decide_eq_false ct
      have c1c : decide (t < n) = false := decide_eq_false (by omega)
      have ht : t = n := by have := HT.out; omega
      subst ht
      obtain ⟨hv, hblk, hR⟩ := HV.out
      obtain ⟨Av, cv, rfl, hcv, hCv⟩ := Kd.R_reads hR
      have HG0 := Aside0.mk (C_one (n := 0) hblk hcv hCv)
      have HBA := Aside0.mk HB.out
      clear ct HT HV hblk hR hcv hCv HB
      go_wp2
      obtain ⟨z, hz⟩ : ∃ z, rd l1 0 = z := ⟨_, rfl⟩
      rw [hz] at HX0
      have Hz := Aside0.mk hz
      have hzs : small z = true := by rw [← hz]; exact small_rd HS.out 0
      have HZ := Aside0.mk hzs
      clear hz hzs
      go_loopw [5, 42] (fun v5 v42 w' => ∃ i : Nat, v42 = .int .i64 (i : Int) ∧ Aside0 (i ≤ l1.length) ∧ Aside0 (∃ A c, v5 = .slice A (groupsF t z (l1.take i)).length c ∧ (groupsF t z (l1.take i)).length ≤ c ∧ Kd.C (Kd.slice 3 (Kd.int .i64)) w' A (groupsF t z (l1.take i)).length (groupsF t z (l1.take i))) ∧ Aside0 (Below w.heap.size w w')) (fun _ v _ => l1.length - (intOf v).toNat)
      case atStart => exact ⟨0, rfl, ⟨Nat.zero_le _⟩, ⟨_, _, rfl, Nat.le_refl _, HG0.out⟩, ⟨HBA.out⟩⟩
      case round =>
        clear HG0 HBA
        obtain ⟨i, rfl, HI, HGs, HB⟩ := hrel
        have hgood := groupsF_good HN.out.1 z (l1.take i)
        by_cases ci : (i : Int) < (l1.length : Int)
        · have c2b : decide ((i : Int) < (l1.length : Int)) = true := decide_eq_true ci
          have c2c : decide (i < l1.length) = true := decide_eq_true (by omega)
          have hi : i < l1.length := by omega
          have Hi := Aside0.mk hi
          have hnext := take_foldl_succ t z l1 i hi
          rw [← rd_get l1 i hi] at hnext
          obtain ⟨Ag, cg, rfl, hcg, hCg⟩ := HGs.out
          generalize groupsF t z (l1.take i) = gs at hgood hnext hcg hCg
          have p0 : (0 : Int) ≤ i := by omega
          obtain ⟨ad2, e2, hx2⟩ := Kd.at_int (Kd.C_below HR1.out HB.out) (i : Int) p0 ci
          injection e2 with e2
          subst e2
          rw [Int.toNat_natCast] at hx2
          have hss : small (rd l1 (i : Int)) = true := small_rd HS.out _
          generalize rd l1 (i : Int) = s at hnext hx2 hss
          obtain ⟨x, hx⟩ : ∃ x, xr s z = x := ⟨_, rfl⟩
          have hxx : Go.bits .xor .i64 s z = x := by rw [← hx]; exact xr_bits hss HZ.out
          have hxs : small x = true := by rw [← hx]; exact xr_small hss HZ.out
          rw [hx] at hnext
          have Hnext := Aside0.mk hnext
          have Hgood := Aside0.mk hgood
          have HCg := Aside0.mk hCg
          have Hcg := Aside0.mk hcg
          have HXS := Aside0.mk hxs
          have q0 := eq_true ci
          have q0' := eq_true hi
          have hgc := hgood.count
          have HGc := Aside0.mk hgc
          clear hnext hgood hCg hcg HGs hss hxs hi ci hx hgc
          go_wp2
          obtain ⟨Wi, hWi⟩ : ∃ Wi, Wi = wr := ⟨_, rfl⟩
          subst hWi
          go_loopw [9, 48] (fun v9 v48 w' => ∃ j : Nat, v48 = .int .i64 (j : Int) ∧ Aside0 (j ≤ gs.length) ∧ Aside0 (Kd.R (Kd.slice 3 (Kd.int .i64)) 22 w' Wi.heap.size (fun _ => True) v9 (refine1 x (gs.take j))) ∧ Aside0 (Below Wi.heap.size Wi w')) (fun _ v _ => gs.length - (intOf v).toNat)
          case atStart => exact ⟨0, rfl, ⟨Nat.zero_le _⟩, ⟨Kd.R_nil _ _ _ _ _⟩, ⟨Below.refl _ _⟩⟩
          case round =>
            obtain ⟨j, rfl, HJ, HF, HBi⟩ := hrel
            by_cases cj : (j : Int) < (gs.length : Int)
            · have c3b : decide ((j : Int) < (gs.length : Int)) = true := decide_eq_true cj
              have c3c : decide (j < gs.length) = true := decide_eq_true (by omega)
              have hj : j < gs.length := by omega
              have Hj := Aside0.mk hj
              have p1 : (0 : Int) ≤ j := by omega
              obtain ⟨ad3, A3, c3, e3, hx3, hl3, hc3⟩ := rows_get (Kd.C_below HCg.out HBi.out) j hj
              subst e3
              have hnj := take_flatMap_succ x gs j hj
              have hrange : ∀ u, u ∈ gs[j] → 0 ≤ u ∧ u < (t : Int) := fun u hu => Hgood.out.range (List.getElem_mem hj) hu
              have hglen := Hgood.out.glen (List.getElem_mem hj)
              generalize gs[j] = g at hx3 hl3 hc3 hnj hrange hglen
              have Hnj := Aside0.mk hnj
              have Hrange := Aside0.mk hrange
              have Hglen := Aside0.mk hglen
              have HC3 := Aside0.mk hc3
              have Hl3 := Aside0.mk hl3
              have q1 := eq_true cj
              have q1' := eq_true hj
              clear hnj hrange hglen hc3 hl3 hj cj
              go_wp2
              obtain ⟨Wg, hWg⟩ : ∃ Wg, Wg = wr := ⟨_, rfl⟩
              subst hWg
              go_loopw [12, 13, 54] (fun v12 v13 v54 w' => ∃ k : Nat, v54 = .int .i64 (k : Int) ∧ Aside0 (k ≤ g.length) ∧ Aside0 (Kd.R (Kd.int .i64) 3 w' Wg.heap.size (fun q => some q ≠ (v13 : Value).ownBlock) v12 ((g.take k).filter (litB x))) ∧ Aside0 (Kd.R (Kd.int .i64) 3 w' Wg.heap.size (fun q => some q ≠ (v12 : Value).ownBlock) v13 ((g.take k).filter (fun u => !litB x u))) ∧ Aside0 (Below Wg.heap.size Wg w')) (fun _ _ v _ => g.length - (intOf v).toNat)
              case atStart => exact ⟨0, rfl, ⟨Nat.zero_le _⟩, ⟨Kd.R_nil _ _ _ _ _⟩, ⟨Kd.R_nil _ _ _ _ _⟩, ⟨Below.refl _ _⟩⟩
              case round =>
                obtain ⟨k, rfl, HK, HO1, HO2, HBg⟩ := hrel
                by_cases ck : (k : Int) < (g.length : Int)
                · have c4b : decide ((k : Int) < (g.length : Int)) = true := decide_eq_true ck
                  have c4c : decide (k < g.length) = true := decide_eq_true (by omega)
                  have hk : k < g.length := by omega
                  have Hk := Aside0.mk hk
                  have p2 : (0 : Int) ≤ k := by omega
                  obtain ⟨ad4, e4, hx4⟩ := Kd.at_int (Kd.C_below HC3.out HBg.out) (k : Int) p2 ck
                  subst e4
                  rw [Int.toNat_natCast, rd_get g k hk] at hx4
                  have hru := Hrange.out g[k] (List.getElem_mem hk)
                  have ht1 := take_filter_succ (litB x) g k hk
                  have ht2 := take_filter_succ (fun u => !litB x u) g k hk
                  have HO1l : ((g.take k).filter (litB x)).length ≤ 12 := Nat.le_trans (List.length_filter_le _ _) (by rw [List.length_take]; have := Hglen.out; have := HN.out; omega)
                  have HO2l : ((g.take k).filter (fun u => !litB x u)).length ≤ 12 := Nat.le_trans (List.length_filter_le _ _) (by rw [List.length_take]; have := Hglen.out; have := HN.out; omega)
                  generalize g[k] = u at hx4 hru ht1 ht2
                  obtain ⟨m, rfl⟩ : ∃ m : Nat, u = m := ⟨u.toNat, by omega⟩
                  have hm : m < 12 := by have := HN.out; omega
                  have hw0 : wrap64 (2 ^ m) = ((2 ^ m : Nat) : Int) := w2 (by omega)
                  have hw1 : wrap64 (2 ^ min m 64) = ((2 ^ m : Nat) : Int) := by rw [show min m 64 = m from by omega, hw0]
                  have hand := and_bits HXS.out hm
                  generalize ((2 ^ m : Nat) : Int) = Z at hw0 hw1 hand
                  obtain ⟨y, hy⟩ : ∃ y : Int, ((x.toNat &&& 2 ^ m : Nat) : Int) = y := ⟨_, rfl⟩
                  have hyb : (y != 0) = litB x (m : Int) := by rw [← hy]; exact lit_ne x m
                  rw [hy] at hand
                  have pm : (0 : Int) ≤ m := by omega
                  have hl0 : wr.cell? (ad.add 0) = some (.int .i64 z) := pw_cell_below HBg.out (pw_cell_below HBi.out (pw_cell_below HB.out HX0.out))
                  have hl0' : wr.cell? ad = some (.int .i64 z) := by have e0 : ad.add 0 = ad := (by simp [Addr.add]); rw [← e0]; exact hl0
                  have q2 := eq_true ck
                  have q2' := eq_true hk
                  clear hru hk ck hm hy
                  have HLn1 := Aside0.mk HO1l
                  have HLn2 := Aside0.mk HO2l
                  clear HO1l HO2l
                  cases hb : litB x (m : Int) with
                  | true =>
                    have ht1' : (g.take (k + 1)).filter (litB x) = (g.take k).filter (litB x) ++ [(m : Int)] := by rw [ht1, if_pos hb]
                    have ht2' : (g.take (k + 1)).filter (fun u => !litB x u) = (g.take k).filter (fun u => !litB x u) := by rw [ht2]; simp [hb]
                    have HT1 := Aside0.mk ht1'
                    have HT2 := Aside0.mk ht2'
                    rw [hb] at hyb
                    clear ht1 ht2 ht1' ht2' hb
                    go_wp2
                    go_quiet (fail)
                    go_wp2_with ((with_reducible refine gate_builtin (b := .append) (xs := #[.tmp 67, .tmp 69]) rfl ?_); go_must (at_builtin; refine Kd.R_append (Kd.int .i64) (w0 := Wg) Wg.heap.size rfl (.tmp 67) (.tmp 69) 22 3 (.int .i64 0) 8 rfl Try.underlying22 info3 rfl (by decide) (by omega) u12 ((g.take k).filter (litB x)) (m : Int) [.int .i64 (m : Int)] (fun q => some q ≠ (u13 : Value).ownBlock) (fun _ => False) rfl (by first | rfl | (simp; done)) rfl (fun _ hk => hk.elim) ?aF ?aO ?aB ?aS (by have := HLn1.out; omega) ?_; (case aB => exact (by repeat (first | (with_reducible first | exact HBg.out | apply below_alloc | apply pw_below_drewN | apply below_drew1) | exact HBg.out))); (case aF => exact (fun k_ hk => Kd.fresh' (Kd.R_lt (by (with_reducible repeat (first | apply Kd.R_alloc | apply Kd.R_drewN | apply Kd.R_drew)); exact HO2.out)) k_ hk)); (case aO => exact (by (with_reducible repeat (first | apply Kd.R_alloc | apply Kd.R_drewN | apply Kd.R_drew)); exact HO1.out)); (case aS => exact (below_size (by repeat (first | (with_reducible first | exact HBg.out | apply below_alloc | apply pw_below_drewN | apply below_drew1) | exact HBg.out)))); intro v7 w7 ho hb7 hg hat; have n0_ := Aside0.mk (Kd.R_after (ok := (fun _ => True)) (by (with_reducible repeat (first | apply Kd.R_alloc | apply Kd.R_drewN | apply Kd.R_drew)); exact Kd.R_mono HO2.out (fun _ hk => ⟨trivial, hk⟩)) hg hat); have n1_ := Aside0.mk hb7; have n2_ := Aside0.mk ho; clear ho hb7 hg hat))
                    go_roundw
                    case rel => exact ⟨k + 1, by rw [w64 (x := (k : Int) + 1) (by omega) (by have := Hglen.out; have := HN.out; have := Hk.out; omega)]; rfl, ⟨by have := Hk.out; omega⟩, ⟨by rw [HT1.out]; exact n2_.out⟩, ⟨by rw [HT2.out]; exact Kd.R_mono n0_.out (fun _ hk => hk.2)⟩, ⟨n1_.out⟩⟩
                    case measure => rw [w64 (x := (k : Int) + 1) (by omega) (by have := Hglen.out; have := HN.out; have := Hk.out; omega)]; have := Hk.out; simp [intOf]; omega
                  | false =>
                    have ht1' : (g.take (k + 1)).filter (litB x) = (g.take k).filter (litB x) := by rw [ht1]; simp [hb]
                    have ht2' : (g.take (k + 1)).filter (fun u => !litB x u) = (g.take k).filter (fun u => !litB x u) ++ [(m : Int)] := by rw [ht2]; simp [hb]
                    have HT1 := Aside0.mk ht1'
                    have HT2 := Aside0.mk ht2'
                    rw [hb] at hyb
                    clear ht1 ht2 ht1' ht2' hb
                    go_wp2
                    go_quiet (fail)
                    go_wp2_with ((with_reducible refine gate_builtin (b := .append) (xs := #[.tmp 71, .tmp 73]) rfl ?_); go_must (at_builtin; refine Kd.R_append (Kd.int .i64) (w0 := Wg) Wg.heap.size rfl (.tmp 71) (.tmp 73) 22 3 (.int .i64 0) 8 rfl Try.underlying22 info3 rfl (by decide) (by omega) u13 ((g.take k).filter (fun u => !litB x u)) (m : Int) [.int .i64 (m : Int)] (fun q => some q ≠ (u12 : Value).ownBlock) (fun _ => False) rfl (by first | rfl | (simp; done)) rfl (fun _ hk => hk.elim) ?aF ?aO ?aB ?aS (by have := HLn2.out; omega) ?_; (case aB => exact (by repeat (first | (with_reducible first | exact HBg.out | apply below_alloc | apply pw_below_drewN | apply below_drew1) | exact HBg.out))); (case aF => exact (fun k_ hk => Kd.fresh' (Kd.R_lt (by (with_reducible repeat (first | apply Kd.R_alloc | apply Kd.R_drewN | apply Kd.R_drew)); exact HO1.out)) k_ hk)); (case aO => exact (by (with_reducible repeat (first | apply Kd.R_alloc | apply Kd.R_drewN | apply Kd.R_drew)); exact HO2.out)); (case aS => exact (below_size (by repeat (first | (with_reducible first | exact HBg.out | apply below_alloc | apply pw_below_drewN | apply below_drew1) | exact HBg.out)))); intro v7 w7 ho hb7 hg hat; have n0_ := Aside0.mk (Kd.R_after (ok := (fun _ => True)) (by (with_reducible repeat (first | apply Kd.R_alloc | apply Kd.R_drewN | apply Kd.R_drew)); exact Kd.R_mono HO1.out (fun _ hk => ⟨trivial, hk⟩)) hg hat); have n1_ := Aside0.mk hb7; have n2_ := Aside0.mk ho; clear ho hb7 hg hat))
                    go_roundw
                    case rel => exact ⟨k + 1, by rw [w64 (x := (k : Int) + 1) (by omega) (by have := Hglen.out; have := HN.out; have := Hk.out; omega)]; rfl, ⟨by have := Hk.out; omega⟩, ⟨by rw [HT1.out]; exact Kd.R_mono n0_.out (fun _ hk => hk.2)⟩, ⟨by rw [HT2.out]; exact n2_.out⟩, ⟨n1_.out⟩⟩
                    case measure => rw [w64 (x := (k : Int) + 1) (by omega) (by have := Hglen.out; have := HN.out; have := Hk.out; omega)]; have := Hk.out; simp [intOf]; omega
                · have c4b : decide ((k : Int) < (g.length : Int)) = false := decide_eq_false ck
                  have c4c : decide (k < g.length) = false := decide_eq_false (by omega)
                  have hk : k = g.length := by have := HK.out; omega
                  subst hk
                  rw [List.take_length] at HO1 HO2
                  clear ck HK
                  have hhv : [g.filter (litB x), g.filter (fun u => !litB x u)].filter (fun p => decide (0 < p.length)) = halves x g := rfl
                  have hon : (g.filter (litB x)).length ≤ 12 := Nat.le_trans (List.length_filter_le _ _) (by have := Hglen.out; have := HN.out; omega)
                  have hoff : (g.filter (fun u => !litB x u)).length ≤ 12 := Nat.le_trans (List.length_filter_le _ _) (by have := Hglen.out; have := HN.out; omega)
                  generalize g.filter (litB x) = on at HO1 hhv hon
                  generalize g.filter (fun u => !litB x u) = off at HO2 hhv hoff
                  obtain ⟨Aon, con, rfl⟩ := Kd.R_slice HO1.out
                  obtain ⟨Aoff, coff, rfl⟩ := Kd.R_slice HO2.out
                  have Hhv := Aside0.mk hhv
                  have HFlen := Aside0.mk (show (refine1 x (gs.take j)).length ≤ 24 from Nat.le_trans (refine1_len x gs j) (by have := HGc.out; have := HN.out; omega))
                  clear hhv hon hoff
                  go_wp2
                  obtain ⟨Wd, hWd⟩ : ∃ Wd, Wd = wr := ⟨_, rfl⟩
                  subst hWd
                  have HBd := Aside0.mk (below_step HBi.out HBg.out)
                  have HF0 := Aside0.mk (Kd.R_mono (Kd.R_bound (Kd.R_below HF.out HBg.out)) (fun k hk => (show k ≠ Wd.heap.size by have := hk.2.2.1; omega)))
                  have HR1_ := Aside0.mk (Kd.R_lower (base' := Wi.heap.size) (Kd.R_mono HO1.out (fun _ _ => trivial)) HBi.out.size)
                  have HR2_ := Aside0.mk (Kd.R_lower (base' := Wi.heap.size) (Kd.R_mono HO2.out (fun _ _ => trivial)) HBi.out.size)
                  clear HO1 HO2 HF HBg
                  go_loopw [9, 80] (fun v9 v80 w' => ∃ q : Nat, v80 = .int .i64 (q : Int) ∧ Aside0 (q ≤ 2) ∧ Aside0 (Kd.R (Kd.slice 3 (Kd.int .i64)) 22 w' Wi.heap.size (fun k => k ≠ Wd.heap.size) v9 (refine1 x (gs.take j) ++ ([on, off].take q).filter (fun p => decide (0 < p.length)))) ∧ Aside0 (w'.heap[Wd.heap.size]? = some (.cells #[.slice Aon on.length con, .slice Aoff off.length coff] 22 (0, 0))) ∧ Aside0 (Kd.R (Kd.int .i64) 3 w' Wi.heap.size (fun _ => True) (.slice Aon on.length con) on) ∧ Aside0 (Kd.R (Kd.int .i64) 3 w' Wi.heap.size (fun _ => True) (.slice Aoff off.length coff) off) ∧ Aside0 (Below Wi.heap.size Wi w')) (fun _ v _ => 2 - (intOf v).toNat)
                  case atStart => exact ⟨0, rfl, ⟨by omega⟩, ⟨by rw [List.take_zero, List.filter_nil, List.append_nil]; exact Kd.R_alloc HF0.out _⟩, ⟨heap_alloc_new Wd _⟩, ⟨Kd.R_alloc HR1_.out _⟩, ⟨Kd.R_alloc HR2_.out _⟩, ⟨below_alloc HBd.out _⟩⟩
                  case round =>
                    clear HF0 HR1_ HR2_ HBd
                    obtain ⟨q, rfl, HQ, HF2, HLb, HRon, HRoff, HBe⟩ := hrel
                    have hc0 := (blk_cell HLb.out 0).trans rfl
                    have hc1 := (blk_cell HLb.out 1).trans rfl
                    by_cases cq : (q : Int) < 2
                    · have c5b : decide ((q : Int) < 2) = true := decide_eq_true cq
                      rcases (show q = 0 ∨ q = 1 by omega) with rfl | rfl
                      · have e0 : ([on, off].take 0).filter (fun p => decide (0 < p.length)) = ([] : List (List Int)) := rfl
                        have e1 : ([on, off].take 1).filter (fun p => decide (0 < p.length)) = if 0 < on.length then [on] else [] := by
                          by_cases h : 0 < on.length <;> simp [List.filter_cons, h]
                        rw [e0] at HF2
                        have E1 := Aside0.mk e1
                        clear e0 e1
                        have HM := Aside0.mk (R_ne_rows (Kd.R_mono (Kd.R_types HRon.out HLb.out (by decide)) (fun _ hk => hk.2)) HF2.out)
                        have HFl := Aside0.mk (show (refine1 x (gs.take j)).length + ([] : List (List Int)).length ≤ 24 by have := HFlen.out; simpa using this)
                        by_cases cp : 0 < on.length
                        · have b5 : decide (0 < (on.length : Int)) = true := decide_eq_true (by omega)
                          have b5' : decide (0 < on.length) = true := decide_eq_true cp
                          have E1' := Aside0.mk (show ([on, off].take 1).filter (fun p => decide (0 < p.length)) = [on] by rw [E1.out, if_pos cp])
                          clear cp
                          go_wp2_with ((with_reducible refine gate_builtin (b := .append) (xs := #[.tmp 87, .tmp 89]) rfl ?_); go_must (at_builtin; refine Kd.R_append (Kd.slice 3 (Kd.int .i64)) (w0 := Wi) Wi.heap.size rfl (.tmp 87) (.tmp 89) 72 22 (.slice none 0 0) 24 rfl Try.underlying72 infoS rfl (by decide) (by omega) u9 (refine1 x (gs.take j) ++ ([] : List (List Int))) on [.slice Aon on.length con] (fun k => k ≠ Wd.heap.size) (fun k => k ≠ Wd.heap.size ∧ some k ≠ (u9 : Value).ownBlock) rfl (by first | rfl | (simp; done)) ⟨_, rfl, HM.out⟩ (fun _ hk => hk) (fun k hk => by have := blk_lt HLb.out; omega) HF2.out HBe.out HBe.out.size (by have := HFl.out; rw [List.length_append]; omega) ?_; intro v7 w7 ho hb7 hg hat; have n0_ := Aside0.mk (blk_grown HLb.out hg (fun e => HF2.out.1 _ e.symm rfl)); have n1_ := Aside0.mk hb7; have n2_ := Aside0.mk ho; have n3_ := Aside0.mk (Kd.R_mono (Kd.R_grown (R_ne_rows HRon.out HF2.out) hg (fun _ hk => hk.2)) (fun _ hk => hk.1)); have n4_ := Aside0.mk (Kd.R_mono (Kd.R_grown (R_ne_rows HRoff.out HF2.out) hg (fun _ hk => hk.2)) (fun _ hk => hk.1)); clear ho hb7 hg hat))
                          go_roundw
                          case rel => exact ⟨1, rfl, ⟨by omega⟩, ⟨by rw [E1'.out]; have h_ := n2_.out; rw [List.append_nil] at h_; exact h_⟩, n0_, n3_, n4_, n1_⟩
                          case measure => simp [intOf, wrap64]
                        · have b5 : decide (0 < (on.length : Int)) = false := decide_eq_false (by omega)
                          have b5' : decide (0 < on.length) = false := decide_eq_false cp
                          have E1' := Aside0.mk (show ([on, off].take 1).filter (fun p => decide (0 < p.length)) = [] by rw [E1.out, if_neg cp])
                          clear cp
                          go_wp2
                          go_roundw
                          case rel => exact ⟨1, rfl, ⟨by omega⟩, ⟨by rw [E1'.out]; exact HF2.out⟩, HLb, HRon, HRoff, HBe⟩
                          case measure => simp [intOf, wrap64]
                      · have e0 : ([on, off].take 1).filter (fun p => decide (0 < p.length)) = [on].filter (fun p => decide (0 < p.length)) := rfl
                        have e1 : ([on, off].take 2).filter (fun p => decide (0 < p.length)) = [on].filter (fun p => decide (0 < p.length)) ++ if 0 < off.length then [off] else [] := by
                          by_cases h : 0 < on.length <;> by_cases h2 : 0 < off.length <;> simp [List.filter_cons, h, h2]
                        have hfl : ([on].filter (fun p => decide (0 < p.length))).length ≤ 1 := List.length_filter_le _ _
                        generalize [on].filter (fun p => decide (0 < p.length)) = fq at e0 e1 hfl
                        rw [e0] at HF2
                        have E1 := Aside0.mk e1
                        clear e0 e1
                        have HM := Aside0.mk (R_ne_rows (Kd.R_mono (Kd.R_types HRoff.out HLb.out (by decide)) (fun _ hk => hk.2)) HF2.out)
                        have HFl := Aside0.mk (show (refine1 x (gs.take j)).length + fq.length ≤ 25 by have := HFlen.out; omega)
                        by_cases cp : 0 < off.length
                        · have b5 : decide (0 < (off.length : Int)) = true := decide_eq_true (by omega)
                          have b5' : decide (0 < off.length) = true := decide_eq_true cp
                          have E1' := Aside0.mk (show ([on, off].take 2).filter (fun p => decide (0 < p.length)) = fq ++ [off] by rw [E1.out, if_pos cp])
                          clear cp
                          go_wp2_with ((with_reducible refine gate_builtin (b := .append) (xs := #[.tmp 87, .tmp 89]) rfl ?_); go_must (at_builtin; refine Kd.R_append (Kd.slice 3 (Kd.int .i64)) (w0 := Wi) Wi.heap.size rfl (.tmp 87) (.tmp 89) 72 22 (.slice none 0 0) 24 rfl Try.underlying72 infoS rfl (by decide) (by omega) u9 (refine1 x (gs.take j) ++ fq) off [.slice Aoff off.length coff] (fun k => k ≠ Wd.heap.size) (fun k => k ≠ Wd.heap.size ∧ some k ≠ (u9 : Value).ownBlock) rfl (by first | rfl | (simp; done)) ⟨_, rfl, HM.out⟩ (fun _ hk => hk) (fun k hk => by have := blk_lt HLb.out; omega) HF2.out HBe.out HBe.out.size (by have := HFl.out; rw [List.length_append]; omega) ?_; intro v7 w7 ho hb7 hg hat; have n0_ := Aside0.mk (blk_grown HLb.out hg (fun e => HF2.out.1 _ e.symm rfl)); have n1_ := Aside0.mk hb7; have n2_ := Aside0.mk ho; have n3_ := Aside0.mk (Kd.R_mono (Kd.R_grown (R_ne_rows HRon.out HF2.out) hg (fun _ hk => hk.2)) (fun _ hk => hk.1)); have n4_ := Aside0.mk (Kd.R_mono (Kd.R_grown (R_ne_rows HRoff.out HF2.out) hg (fun _ hk => hk.2)) (fun _ hk => hk.1)); clear ho hb7 hg hat))
                          go_roundw
                          case rel => exact ⟨2, rfl, ⟨by omega⟩, ⟨by rw [E1'.out]; rw [← List.append_assoc]; exact n2_.out⟩, n0_, n3_, n4_, n1_⟩
                          case measure => simp [intOf, wrap64]
                        · have b5 : decide (0 < (off.length : Int)) = false := decide_eq_false (by omega)
                          have b5' : decide (0 < off.length) = false := decide_eq_false cp
                          have E1' := Aside0.mk (show ([on, off].take 2).filter (fun p => decide (0 < p.length)) = fq by rw [E1.out, if_neg cp, List.append_nil])
                          clear cp
                          go_wp2
                          go_roundw
                          case rel => exact ⟨2, rfl, ⟨by omega⟩, ⟨by rw [E1'.out]; exact HF2.out⟩, HLb, HRon, HRoff, HBe⟩
                          case measure => simp [intOf, wrap64]
                    · have c5b : decide ((q : Int) < 2) = false := decide_eq_false cq
                      have hq : q = 2 := by have := HQ.out; omega
                      subst hq
                      have e2 : ([on, off].take 2).filter (fun p => decide (0 < p.length)) = halves x g := Hhv.out
                      rw [e2, ← Hnj.out] at HF2
                      clear e2 cq HQ hc0 hc1
                      go_wp2
                      go_roundw
                      case rel => exact ⟨j + 1, by rw [w64 (x := (j : Int) + 1) (by omega) (by have := HGc.out; have := HN.out; have := Hj.out; omega)]; rfl, ⟨by have := Hj.out; omega⟩, ⟨Kd.R_mono HF2.out (fun _ _ => trivial)⟩, ⟨HBe.out⟩⟩
                      case measure => rw [w64 (x := (j : Int) + 1) (by omega) (by have := HGc.out; have := HN.out; have := Hj.out; omega)]; have := Hj.out; simp [intOf]; omega
            · have c3b : decide ((j : Int) < (gs.length : Int)) = false := decide_eq_false cj
              have c3c : decide (j < gs.length) = false := decide_eq_false (by omega)
              have hj : j = gs.length := by have := HJ.out; omega
              subst hj
              rw [List.take_length, ← Hnext.out] at HF
              obtain ⟨Af, cf, rfl, hcf, hCf⟩ := Kd.R_reads HF.out
              have HCf := Aside0.mk hCf
              have Hcf := Aside0.mk hcf
              have HBj := Aside0.mk (below_step HB.out HBi.out)
              clear cj HJ hcf hCf HF
              go_wp2
              go_roundw
              case rel => exact ⟨i + 1, by rw [w64 (x := (i : Int) + 1) (by omega) (by have := HL.out; have := Hi.out; omega)]; rfl, ⟨by have := Hi.out; omega⟩, ⟨_, _, rfl, Hcf.out, HCf.out⟩, ⟨HBj.out⟩⟩
              case measure => rw [w64 (x := (i : Int) + 1) (by omega) (by have := HL.out; have := Hi.out; omega)]; have := Hi.out; simp [intOf]; omega
        · have c2b : decide ((i : Int) < (l1.length : Int)) = false := decide_eq_false ci
          have c2c : decide (i < l1.length) = false := decide_eq_false (by omega)
          have hi : i = l1.length := by have := HI.out; omega
          subst hi
          rw [List.take_length] at hgood HGs
          have hrr := Hr.out
          unfold normalL at hrr
          rw [Hz.out] at hrr
          obtain ⟨Ag, cg, rfl, hcg, hCg⟩ := HGs.out
          dsimp only at hrr
          generalize groupsF t z l1 = gs at hgood hcg hCg hrr
          have hlen := hgood.len
          have hcnt := hgood.count
          have hord := hgood.order
          have hmk := print_make 22 3 .i64 8 Try.underlying22 info3 (by decide) t (by have := HN.out; omega)
          have hcon : ∀ W, Below wr.heap.size wr W → Calls Try.prog 70 #[.slice Ag gs.length cg] W _ := fun W hW => concat_calls Ag cg gs W (Kd.C_below hCg hW) hcg (by have := HN.out; omega) (by rw [hlen]; have := HN.out; omega)
          generalize gs.flatten = order at hlen hord hrr hcon
          have Hlen := Aside0.mk hlen
          have Hord := Aside0.mk hord
          have Hrr := Aside0.mk hrr
          have HCon := Aside0.mk hcon
          have HTo := Aside0.mk (show Kd.R (Kd.int .i64) 3 (wr.alloc (.cells (madeCells #[.int .i64 0] t) 3)) w.heap.size (fun _ => True) (.slice (some ⟨wr.heap.size, 0, none⟩) t t) (toAt t order 0) from (by
            refine R_int_mk (fun _ _ => trivial) ?_
            rw [toAt_len]
            exact own_made wr w.heap.size 3 .i64 t HB.out.size (by have := HN.out; omega)))
          clear hlen hord hrr hcon hgood hcg hCg hcnt HGs ci HI
          go_wp2_with (go_at_call 70; (refine (HCon.out _ (below_alloc (Below.refl _ _) _)).mono ?_); rintro e w1 ⟨v, rfl, ho, hb⟩; obtain ⟨Ao, co, rfl⟩ := Kd.R_slice ho; have HOr0 := Aside0.mk ho; have HBc := Aside0.mk hb; clear ho hb)
          obtain ⟨Wt, hWt⟩ : ∃ Wt, Wt = wr := ⟨_, rfl⟩
          subst hWt
          have HTo1 := Aside0.mk (Kd.R_below HTo.out HBc.out)
          have HOr1 := Aside0.mk (Kd.R_lower (base' := w.heap.size) (Kd.R_mono (Kd.R_bound HOr0.out) (fun k hk => (show k ≠ Wt.heap.size by have := hk.2.1; simp at this; omega))) (by have := HB.out.size; simp; omega))
          have HB1 := Aside0.mk (below_step (below_alloc HB.out (Obj.cells (madeCells #[.int .i64 0] t) 3)) HBc.out)
          have HLt := Aside0.mk (show w.heap.size ≤ Wt.heap.size from HB.out.size)
          clear HTo HOr0 HBc HB
          go_loopw [100] (fun v100 w' => ∃ i : Nat, v100 = .int .i64 (i : Int) ∧ Aside0 (i ≤ t) ∧ Aside0 (Kd.R (Kd.int .i64) 3 w' w.heap.size (fun _ => True) (.slice (some ⟨Wt.heap.size, 0, none⟩) t t) (toAt t order i)) ∧ Aside0 (Kd.R (Kd.int .i64) 3 w' w.heap.size (fun k => k ≠ Wt.heap.size) (.slice Ao order.length co) order) ∧ Aside0 (Below w.heap.size w w')) (fun v _ => t - (intOf v).toNat)
          case atStart => exact ⟨0, rfl, ⟨Nat.zero_le _⟩, HTo1, HOr1, HB1⟩
          case round =>
            clear HTo1 HOr1 HB1
            obtain ⟨i, rfl, HI, HT, HO, HB⟩ := hrel
            have hol := Hlen.out
            by_cases ci : (i : Int) < (order.length : Int)
            · have c6b : decide ((i : Int) < (order.length : Int)) = true := decide_eq_true ci
              have c6c : decide (i < order.length) = true := decide_eq_true (by omega)
              have hi : i < t := by omega
              have Hi := Aside0.mk hi
              have p0 : (0 : Int) ≤ i := by omega
              obtain ⟨ad5, e5, hx5⟩ := Kd.at_int (Kd.R_reads' HO.out).2.2 (i : Int) p0 ci
              subst e5
              rw [Int.toNat_natCast] at hx5
              have hro := Hord.out i hi
              have hsucc := toAt_succ t order i
              generalize rd order (i : Int) = o at hx5 hro hsucc
              have hT1 : Kd.R (Kd.int .i64) 3 wr w.heap.size (fun _ => True) (.slice (some ⟨Wt.heap.size, 0, none⟩) (toAt t order i).length t) (toAt t order i) := by rw [toAt_len]; exact HT.out
              obtain ⟨hcell, hfz⟩ := Kd.R_cell (0 : Int) hT1 o hro.1 (by rw [toAt_len]; exact hro.2)
              have HPut := Aside0.mk (Kd.R_put hT1 o (i : Int))
              have HSucc := Aside0.mk hsucc
              have hadd := add_plain Wt.heap.size o.toNat
              have p5 := hro.1
              have q5 := hro.2
              replace p5 := eq_true p5
              replace q5 := eq_true q5
              have q0 := eq_true ci
              clear hT1 hsucc hro ci hi hol
              go_wp2
              go_roundw
              case rel => exact ⟨i + 1, by rw [w64 (x := (i : Int) + 1) (by omega) (by have := HN.out; have := Hi.out; omega)]; rfl, ⟨by have := Hi.out; omega⟩, ⟨by have h_ := HPut.out.1; rw [← HSucc.out, toAt_len] at h_; exact h_⟩, ⟨Kd.R_far HO.out (fun k hk => hk) _⟩, ⟨HB.out.setCell HLt.out _⟩⟩
              case measure => rw [w64 (x := (i : Int) + 1) (by omega) (by have := HN.out; have := Hi.out; omega)]; have := Hi.out; simp [intOf]; omega
            · have c6b : decide ((i : Int) < (order.length : Int)) = false := decide_eq_false ci
              have c6c : decide (i < order.length) = false := decide_eq_false (by omega)
              have hi : i = t := by have := HI.out; omega
              subst hi
              have htr := fun u => toAt_range i order i (Nat.le_refl _) (by have := HN.out; omega) u
              have HTR := Aside0.mk htr
              have hrr := Hrr.out
              have htl := toAt_len i order i
              have HTC := Aside0.mk (Kd.R_reads' HT.out).2.2
              generalize toAt i order i = tb at HT HTR htl hrr htr HTC
              have Hrr2 := Aside0.mk hrr
              have Htl := Aside0.mk htl
              clear hrr htl htr HTC ci HI hol Hrr HO
              go_wp2
              go_loopw [21, 112] (fun v21 v112 w' => ∃ a : Nat, v112 = .int .i64 (a : Int) ∧ Aside0 (a ≤ l1.length) ∧ Aside0 (Kd.R (Kd.int .i64) 3 w' w.heap.size (fun k => k ≠ Wt.heap.size) v21 ((l1.take a).map fun s => (outX tb (s.toNat ^^^ z.toNat) i : Int))) ∧ Aside0 (Kd.R (Kd.int .i64) 3 w' w.heap.size (fun k => some k ≠ (v21 : Value).ownBlock) (.slice (some ⟨Wt.heap.size, 0, none⟩) i i) tb) ∧ Aside0 (Below w.heap.size w w')) (fun _ v _ => l1.length - (intOf v).toNat)
              case atStart => exact ⟨0, rfl, ⟨Nat.zero_le _⟩, ⟨Kd.R_nil _ _ _ _ _⟩, ⟨Kd.R_mono HT.out (fun k _ => by simp [Value.ownBlock])⟩, HB⟩
              case round =>
                clear HT HB
                obtain ⟨a, rfl, HA, HO, HT, HB⟩ := hrel
                by_cases ca : (a : Int) < (l1.length : Int)
                · have c7b : decide ((a : Int) < (l1.length : Int)) = true := decide_eq_true ca
                  have c7c : decide (a < l1.length) = true := decide_eq_true (by omega)
                  have ha : a < l1.length := by omega
                  have Ha := Aside0.mk ha
                  have p0 : (0 : Int) ≤ a := by omega
                  obtain ⟨ad6, e6, hx6⟩ := Kd.at_int (Kd.C_below HR1.out HB.out) (a : Int) p0 ca
                  injection e6 with e6
                  subst e6
                  rw [Int.toNat_natCast] at hx6
                  have htk : (l1.take (a + 1)).map (fun s => (outX tb (s.toNat ^^^ z.toNat) i : Int)) = (l1.take a).map (fun s => (outX tb (s.toNat ^^^ z.toNat) i : Int)) ++ [(outX tb ((rd l1 (a : Int)).toNat ^^^ z.toNat) i : Int)] := by
                    rw [rd_get l1 a ha, List.take_succ_eq_append_getElem ha, List.map_append, List.map_singleton]
                  have hss : small (rd l1 (a : Int)) = true := small_rd HS.out _
                  generalize rd l1 (a : Int) = s at htk hx6 hss
                  have hxx : Go.bits .xor .i64 s z = xr s z := xr_bits hss HZ.out
                  have hxs : small (xr s z) = true := xr_small hss HZ.out
                  have hxe : xr s z = ((s.toNat ^^^ z.toNat : Nat) : Int) := rfl
                  rw [hxe] at hxx hxs
                  generalize s.toNat ^^^ z.toNat = X at hxx hxs htk
                  have HXS := Aside0.mk hxs
                  have Htk := Aside0.mk htk
                  have q0 := eq_true ca
                  have q0' := eq_true ha
                  clear htk hss hxs hxe ha ca
                  go_wp2
                  go_loopw [24, 117] (fun v24 v117 w' => ∃ b : Nat, v117 = .int .i64 (b : Int) ∧ v24 = .int .i64 (outX tb X b : Int) ∧ Aside0 (b ≤ i) ∧ Aside0 (Kd.R (Kd.int .i64) 3 w' w.heap.size (fun k => k ≠ Wt.heap.size) u21 ((l1.take a).map fun s => (outX tb (s.toNat ^^^ z.toNat) i : Int))) ∧ Aside0 (Kd.R (Kd.int .i64) 3 w' w.heap.size (fun k => some k ≠ (u21 : Value).ownBlock) (.slice (some ⟨Wt.heap.size, 0, none⟩) i i) tb) ∧ Aside0 (Below w.heap.size w w')) (fun _ v _ => i - (intOf v).toNat)
                  case atStart => exact ⟨0, rfl, rfl, ⟨Nat.zero_le _⟩, HO, HT, HB⟩
                  case round =>
                    clear HO HT HB
                    obtain ⟨b, rfl, rfl, HBi, HO, HT, HB⟩ := hrel
                    by_cases cb : (b : Int) < (i : Int)
                    · have c8b : decide ((b : Int) < (i : Int)) = true := decide_eq_true cb
                      have c8c : decide (b < i) = true := decide_eq_true (by omega)
                      have hb : b < i := by omega
                      have Hb := Aside0.mk hb
                      have hT1 : Kd.R (Kd.int .i64) 3 wr w.heap.size (fun k => some k ≠ (u21 : Value).ownBlock) (.slice (some ⟨Wt.heap.size, 0, none⟩) tb.length i) tb := by rw [Htl.out]; exact HT.out
                      obtain ⟨hcell, hfz⟩ := Kd.R_cell (0 : Int) hT1 (b : Int) (by omega) (by rw [Htl.out]; exact cb)
                      have hrd0 : rdOf (0 : Int) tb (b : Int) = rd tb (b : Int) := rfl
                      rw [hrd0, Int.toNat_natCast] at hcell
                      have hro := HTR.out (b : Int)
                      have hsucc := outX_succ tb X b
                      have hlt1 := outX_lt tb X (fun u => ⟨(HTR.out u).1, by have := (HTR.out u).2; have := HN.out; omega⟩) b
                      generalize rd tb (b : Int) = o at hcell hro hsucc
                      obtain ⟨o, rfl⟩ : ∃ o' : Nat, o = o' := ⟨o.toNat, by omega⟩
                      rw [Int.toNat_natCast] at hsucc
                      have hval := out_round (A := outX tb X b) (X := X) (b := b) (o := o) hlt1 (by have := of_decide_eq_true HXS.out; omega) (by have := HN.out; omega) (by have := HN.out; omega)
                      rw [← hsucc] at hval
                      have HV := Aside0.mk hval
                      clear hval hsucc hlt1
                      have hadd := add_plain Wt.heap.size b
                      have p0 : (0 : Int) ≤ b := by omega
                      have po : (0 : Int) ≤ o := by omega
                      have hl0 : wr.cell? ad = some (.int .i64 z) := by have e0 : ad.add 0 = ad := (by simp [Addr.add]); have h_ := pw_cell_below HB.out HX0.out; rw [e0] at h_; exact h_
                      have q1 := eq_true cb
                      have q1' := eq_true hb
                      clear hT1 hfz hrd0 hb cb hro
                      go_wp2
                      go_quiet (fail)
                      go_wp2
                      go_roundw
                      case rel => exact ⟨b + 1, by rw [w64 (x := (b : Int) + 1) (by omega) (by have := HN.out; have := Hb.out; omega)]; rfl, by rw [HV.out], ⟨by have := Hb.out; omega⟩, ⟨Kd.R_drewN HO.out _⟩, ⟨Kd.R_drewN HT.out _⟩, ⟨pw_below_drewN HB.out _⟩⟩
                      case measure => rw [w64 (x := (b : Int) + 1) (by omega) (by have := HN.out; have := Hb.out; omega)]; have := Hb.out; simp [intOf]; omega
                    · have c8b : decide ((b : Int) < (i : Int)) = false := decide_eq_false cb
                      have c8c : decide (b < i) = false := decide_eq_false (by omega)
                      have hb : b = i := by have := HBi.out; omega
                      subst hb
                      have Hml := Aside0.mk (show ((l1.take a).map fun s => (outX tb (s.toNat ^^^ z.toNat) b : Int)).length ≤ 5000 by rw [List.length_map, List.length_take]; have := HL.out; omega)
                      clear cb HBi
                      go_wp2_with ((with_reducible refine gate_builtin (b := .append) (xs := #[.tmp 136, .tmp 138]) rfl ?_); go_must (at_builtin; refine Kd.R_append (Kd.int .i64) (w0 := w) w.heap.size rfl (.tmp 136) (.tmp 138) 22 3 (.int .i64 0) 8 rfl Try.underlying22 info3 rfl (by decide) (by omega) u21 ((l1.take a).map fun s => (outX tb (s.toNat ^^^ z.toNat) b : Int)) (outX tb X b : Int) [.int .i64 (outX tb X b : Int)] (fun k => k ≠ Wt.heap.size) (fun _ => False) rfl (by first | rfl | (simp; done)) rfl (fun _ hk => hk.elim) (fun k hk => by have := Kd.R_lt HT.out Wt.heap.size rfl; omega) HO.out HB.out HB.out.size (by have := Hml.out; omega) ?_; intro v7 w7 ho hb7 hg hat; have n0_ := Aside0.mk (Kd.R_after (ok := (fun _ => True)) (Kd.R_mono HT.out (fun _ hk => ⟨trivial, hk⟩)) hg hat); have n1_ := Aside0.mk hb7; have n2_ := Aside0.mk ho; clear ho hb7 hg hat))
                      go_roundw
                      case rel => exact ⟨a + 1, by rw [w64 (x := (a : Int) + 1) (by omega) (by have := HL.out; have := Ha.out; omega)]; rfl, ⟨by have := Ha.out; omega⟩, ⟨by rw [Htk.out]; exact n2_.out⟩, ⟨Kd.R_mono n0_.out (fun _ hk => hk.2)⟩, n1_⟩
                      case measure => rw [w64 (x := (a : Int) + 1) (by omega) (by have := HL.out; have := Ha.out; omega)]; have := Ha.out; simp [intOf]; omega
                · have c7b : decide ((a : Int) < (l1.length : Int)) = false := decide_eq_false ca
                  have c7c : decide (a < l1.length) = false := decide_eq_false (by omega)
                  have ha : a = l1.length := by have := HA.out; omega
                  subst ha
                  rw [List.take_length] at HO
                  clear ca HA
                  go_wp2
                  go_ret
                  exact ⟨_, rfl, by rw [← Hrr2.out]; exact Kd.R_mono HO.out (fun _ _ => trivial), HB.out⟩
end
end Go.Proofs.Ytnakkdaeehglnaa.P

namespace Go.Proofs.Ytnakkdaeehglnaa.P
open Go.RowKit Go.Proofs.YtnakkdaeehglnaaW.PrintWords Go.Proofs.YtnakkdaeehglnaaW.PrintLast Go.Proofs.YtnakkdaeehglnaaW.PrintMore
attribute [local go_sem] max2_int min2_int max_two min_two max_three min_three max_four min_four   -- for this text's walks alone
set_option linter.unusedVariables false
set_option linter.unusedSimpArgs false

/-! ### flash_Normal: function 33 -/
def flash_Normal.f (a0 : Int) (l1 : List Int) : Option (List Int × Int) := (flash_listed.f a0 l1).bind fun t129 => (if t129 = 0 then ((flash_normal.f a0 l1).bind fun t130 => (some (t130, 0))) else (some (([] : List Int), t129)))
set_option maxHeartbeats 8000000 in
set_option maxRecDepth 100000 in
theorem flash_Normal.calls (a0 : Int) (A1 : Option Addr) (c1 : Nat) (l1 : List Int) (r1 : List Int) (r2 : Int) (w : World) (hr1 : Kd.C (Kd.int .i64) w A1 l1.length l1) (hc1 : l1.length ≤ c1) (h : flash_Normal.f a0 l1 = some (r1, r2)) :
    Calls Try.prog 33 #[.int .i64 a0, .slice A1 l1.length c1] w fun e w' => ∃ v0_ : Value, e = .returned (.tuple #[v0_, .int .i64 r2]) ∧ Kd.R (Kd.int .i64) 3 w' w.heap.size (fun _ => True) v0_ r1 ∧ Below w.heap.size w w' := by
  have HR1 := Aside0.mk hr1
  have HC1 := Aside0.mk hc1
  clear hr1 hc1
  have HB := Aside0.mk (Below.refl w.heap.size w)
  have H : ((flash_listed.f a0 l1).bind fun t129 => (if t129 = 0 then ((flash_normal.f a0 l1).bind fun t130 => (some (t130, 0))) else (some (([] : List Int), t129)))) = some (r1, r2) := h
  clear h
  replace H := Option.bind_eq_some_iff.mp H
  obtain ⟨t129, A30, H⟩ := H
  replace H : (if t129 = 0 then ((flash_normal.f a0 l1).bind fun t130 => (some (t130, 0))) else (some (([] : List Int), t129))) = some (r1, r2) := H
  have A3 := Aside0.mk A30
  clear A30
  by_cases c4 : t129 = 0
  · rw [if_pos c4] at H
    have c4b0 : (t129 == 0) = true := beq_iff_eq.mpr c4
    have c4b1 : (t129 != 0) = false := bne_eq_false_iff_eq.mpr c4
    clear c4
    replace H := Option.bind_eq_some_iff.mp H
    obtain ⟨t130, A50, H⟩ := H
    replace H : (some (t130, 0)) = some (r1, r2) := H
    have A5 := Aside0.mk A50
    clear A50
    simp only [Option.some.injEq, Prod.mk.injEq] at H
    obtain ⟨rfl, rfl⟩ := H
    go_enter Try.func33, Try.ntmps33
    go_wp2_with (first | ((with_reducible refine gate_callee (f := 50) rfl ?_); refine goesL_ (some 9) rfl rfl Try.func50 (by kernel_rfl) rfl #[.int .i64 a0, .slice A1 l1.length c1] rfl (by (try simp only [List.map_toArray, List.map_cons, List.map_nil]); first | done | rfl | (simp only [List.length_drop, List.length_take]; rfl)) ?_; (with_reducible refine (flash_listed.calls a0 _ _ l1 t129 _ ?side1 ?side2 A3.out).mono ?_); (case side1 => repeat (first | exact HR1.out | (with_reducible refine Kd.C_alloc ?_ _) | (with_reducible refine Kd.C_drewN ?_ _) | (with_reducible refine Kd.C_drew ?_))); (case side2 => exact HC1.out); rintro e w6 ⟨rfl, hb⟩; refine ⟨_, rfl, ?_⟩; have n0_ := Aside0.mk (below_step (by repeat (first | (with_reducible first | exact HB.out | apply below_alloc | apply pw_below_drewN | apply below_drew1) | exact HB.out)) hb); clear HB; have HB := n0_; clear n0_; (try clear hb); (try clear hb2); (try clear hk); (try clear hi)) | ((with_reducible refine gate_callee (f := 56) rfl ?_); refine goesL_ (some 15) rfl rfl Try.func56 (by kernel_rfl) rfl #[.int .i64 a0, .slice A1 l1.length c1] rfl (by (try simp only [List.map_toArray, List.map_cons, List.map_nil]); first | done | rfl | (simp only [List.length_drop, List.length_take]; rfl)) ?_; (with_reducible refine (flash_normal.calls a0 _ _ l1 t130 _ ?side1 ?side2 A5.out).mono ?_); (case side1 => repeat (first | exact (Kd.C_below HR1.out HB.out) | (with_reducible refine Kd.C_alloc ?_ _) | (with_reducible refine Kd.C_drewN ?_ _) | (with_reducible refine Kd.C_drew ?_))); (case side2 => exact HC1.out); rintro e w7 ⟨v131, rfl, ho0, hb⟩; refine ⟨_, rfl, ?_⟩; have n0_ := Aside0.mk (Kd.R_lower ho0 (below_size (by repeat (first | (with_reducible first | exact HB.out | apply below_alloc | apply pw_below_drewN | apply below_drew1) | exact HB.out)))); have n1_ := Aside0.mk (below_step (by repeat (first | (with_reducible first | exact HB.out | apply below_alloc | apply pw_below_drewN | apply below_drew1) | exact HB.out)) hb); clear HB; have HO132 := n0_; have HB := n1_; clear n0_ n1_; (try clear hb); (try clear hb2); (try clear hk); (try clear hi); (try clear ho0)))
    go_ret2
    exact ⟨_, by first | rfl | (simp [errW_none, errW_some] <;> rfl) | (simp [*, errW_none, errW_some] <;> rfl), by (with_reducible repeat (first | apply Kd.R_alloc | apply Kd.R_drewN | apply Kd.R_drew)); exact HO132.out, by repeat (first | (with_reducible first | exact HB.out | apply below_alloc | apply pw_below_drewN | apply below_drew1) | exact HB.out)⟩
  · rw [if_neg c4] at H
    have c4b0 : (t129 == 0) = false := beq_eq_false_iff_ne.mpr c4
    have c4b1 : (t129 != 0) = true := bne_iff_ne.mpr c4
    simp only [Option.some.injEq, Prod.mk.injEq] at H
    obtain ⟨rfl, rfl⟩ := H
    go_enter Try.func33, Try.ntmps33
    go_wp2_with (first | ((with_reducible refine gate_callee (f := 50) rfl ?_); refine goesL_ (some 9) rfl rfl Try.func50 (by kernel_rfl) rfl #[.int .i64 a0, .slice A1 l1.length c1] rfl (by (try simp only [List.map_toArray, List.map_cons, List.map_nil]); first | done | rfl | (simp only [List.length_drop, List.length_take]; rfl)) ?_; (with_reducible refine (flash_listed.calls a0 _ _ l1 t129 _ ?side1 ?side2 A3.out).mono ?_); (case side1 => repeat (first | exact HR1.out | (with_reducible refine Kd.C_alloc ?_ _) | (with_reducible refine Kd.C_drewN ?_ _) | (with_reducible refine Kd.C_drew ?_))); (case side2 => exact HC1.out); rintro e w8 ⟨rfl, hb⟩; refine ⟨_, rfl, ?_⟩; have n0_ := Aside0.mk (below_step (by repeat (first | (with_reducible first | exact HB.out | apply below_alloc | apply pw_below_drewN | apply below_drew1) | exact HB.out)) hb); clear HB; have HB := n0_; clear n0_; (try clear hb); (try clear hb2); (try clear hk); (try clear hi)))
    go_ret2
    exact ⟨_, by first | rfl | (simp [errW_none, errW_some] <;> rfl) | (simp [*, errW_none, errW_some] <;> rfl), by first | exact Kd.R_nil _ _ _ _ _ | exact Kd.N_nil _ _ _ _ _ | exact Kd.V_nil _ _ _ _ _ | exact Kd.Q_nil _ _ _ _ _ | exact Kd.S_nil _ _ _ _ _, by repeat (first | (with_reducible first | exact HB.out | apply below_alloc | apply pw_below_drewN | apply below_drew1) | exact HB.out)⟩

end Go.Proofs.Ytnakkdaeehglnaa.P

namespace Go.Proofs.Ytnakkdaeehglnaa.P
open Go.RowKit Go.Proofs.YtnakkdaeehglnaaW.PrintWords Go.Proofs.YtnakkdaeehglnaaW.PrintLast Go.Proofs.YtnakkdaeehglnaaW.PrintMore
attribute [local go_sem] max2_int min2_int max_two min_two max_three min_three max_four min_four   -- for this text's walks alone
set_option linter.unusedVariables false
set_option linter.unusedSimpArgs false

/-! ### neonwrightlaw04_alive: function 20 -/
def neonwrightlaw04_alive.f (k : Nat)  : Option (Bool) := (flash_Gray.f 3 5).bind fun bt133 => ((flash_Longest.f 3).bind fun bt135 => ((flash_Coil.f 3).bind fun bt139 => ((flash_Normal.f 3 (([5, 4, 6] : List Int))).bind fun bt146 => (if bt133.2 = 0 then (if bt133.1 = 7 then (if bt135.2 = 0 then ((neonwrightlaw04_same.f k bt135.1 (([0, 1, 3, 7, 6] : List Int))).bind fun t153 => (if t153 = true then (if bt139.2 = 0 then ((neonwrightlaw04_same.f k bt139.1 (([0, 1, 3, 7, 6, 4] : List Int))).bind fun t157 => (if t157 = true then (if bt146.2 = 0 then ((neonwrightlaw04_same.f k bt146.1 (([0, 1, 3] : List Int))).bind fun t161 => (some t161)) else (some false)) else (some false))) else (some false)) else (some false))) else (some false)) else (some false)) else (some false)))))
theorem neonwrightlaw04_alive.mono : ∀ k, LeO (neonwrightlaw04_alive.f k ) (neonwrightlaw04_alive.f (k + 1) ) := by
  intro  k
  unfold neonwrightlaw04_alive.f
  repeat' first
      | (with_reducible exact neonwrightlaw04_same.mono _ _ _)
      | (with_reducible exact LeO.refl _)
      | (with_reducible exact LeO.none _)
      | (with_reducible refine LeO.ite ?_ ?_)
      | (with_reducible refine LeO.bind ?_ (fun _ => ?_))
      | exact neonwrightlaw04_same.mono _ _ _
      | exact LeO.none _
      | refine LeO.ite ?_ ?_
      | refine LeO.bind ?_ (fun _ => ?_)
set_option maxHeartbeats 8000000 in
set_option maxRecDepth 100000 in
theorem neonwrightlaw04_alive.calls (k : Nat)  (r : Bool) (w : World) (h : neonwrightlaw04_alive.f k  = some r) :
    Calls Try.prog 20 #[] w fun e w' => e = .returned (.bool r) ∧ Below w.heap.size w w' := by
  have HB := Aside0.mk (Below.refl w.heap.size w)
  have H : ((flash_Gray.f 3 5).bind fun bt133 => ((flash_Longest.f 3).bind fun bt135 => ((flash_Coil.f 3).bind fun bt139 => ((flash_Normal.f 3 (([5, 4, 6] : List Int))).bind fun bt146 => (if bt133.2 = 0 then (if bt133.1 = 7 then (if bt135.2 = 0 then ((neonwrightlaw04_same.f k bt135.1 (([0, 1, 3, 7, 6] : List Int))).bind fun t153 => (if t153 = true then (if bt139.2 = 0 then ((neonwrightlaw04_same.f k bt139.1 (([0, 1, 3, 7, 6, 4] : List Int))).bind fun t157 => (if t157 = true then (if bt146.2 = 0 then ((neonwrightlaw04_same.f k bt146.1 (([0, 1, 3] : List Int))).bind fun t161 => (some t161)) else (some false)) else (some false))) else (some false)) else (some false))) else (some false)) else (some false)) else (some false)))))) = some r := h
  clear h
  replace H := Option.bind_eq_some_iff.mp H
  obtain ⟨⟨t133, t134⟩, A10, H⟩ := H
  replace H : ((flash_Longest.f 3).bind fun bt135 => ((flash_Coil.f 3).bind fun bt139 => ((flash_Normal.f 3 (([5, 4, 6] : List Int))).bind fun bt146 => (if t134 = 0 then (if t133 = 7 then (if bt135.2 = 0 then ((neonwrightlaw04_same.f k bt135.1 (([0, 1, 3, 7, 6] : List Int))).bind fun t153 => (if t153 = true then (if bt139.2 = 0 then ((neonwrightlaw04_same.f k bt139.1 (([0, 1, 3, 7, 6, 4] : List Int))).bind fun t157 => (if t157 = true then (if bt146.2 = 0 then ((neonwrightlaw04_same.f k bt146.1 (([0, 1, 3] : List Int))).bind fun t161 => (some t161)) else (some false)) else (some false))) else (some false)) else (some false))) else (some false)) else (some false)) else (some false))))) = some r := H
  have A1 := Aside0.mk A10
  clear A10
  replace H := Option.bind_eq_some_iff.mp H
  obtain ⟨⟨t135, t136⟩, A20, H⟩ := H
  replace H : ((flash_Coil.f 3).bind fun bt139 => ((flash_Normal.f 3 (([5, 4, 6] : List Int))).bind fun bt146 => (if t134 = 0 then (if t133 = 7 then (if t136 = 0 then ((neonwrightlaw04_same.f k t135 (([0, 1, 3, 7, 6] : List Int))).bind fun t153 => (if t153 = true then (if bt139.2 = 0 then ((neonwrightlaw04_same.f k bt139.1 (([0, 1, 3, 7, 6, 4] : List Int))).bind fun t157 => (if t157 = true then (if bt146.2 = 0 then ((neonwrightlaw04_same.f k bt146.1 (([0, 1, 3] : List Int))).bind fun t161 => (some t161)) else (some false)) else (some false))) else (some false)) else (some false))) else (some false)) else (some false)) else (some false)))) = some r := H
  have A2 := Aside0.mk A20
  clear A20
  replace H := Option.bind_eq_some_iff.mp H
  obtain ⟨⟨t139, t140⟩, A30, H⟩ := H
  replace H : ((flash_Normal.f 3 (([5, 4, 6] : List Int))).bind fun bt146 => (if t134 = 0 then (if t133 = 7 then (if t136 = 0 then ((neonwrightlaw04_same.f k t135 (([0, 1, 3, 7, 6] : List Int))).bind fun t153 => (if t153 = true then (if t140 = 0 then ((neonwrightlaw04_same.f k t139 (([0, 1, 3, 7, 6, 4] : List Int))).bind fun t157 => (if t157 = true then (if bt146.2 = 0 then ((neonwrightlaw04_same.f k bt146.1 (([0, 1, 3] : List Int))).bind fun t161 => (some t161)) else (some false)) else (some false))) else (some false)) else (some false))) else (some false)) else (some false)) else (some false))) = some r := H
  have A3 := Aside0.mk A30
  clear A30
  obtain ⟨y143, hy143⟩ : ∃ y_ : List Int, y_ = (([5, 4, 6] : List Int)) := ⟨_, rfl⟩
  replace H : ((flash_Normal.f 3 y143).bind fun bt146 => (if t134 = 0 then (if t133 = 7 then (if t136 = 0 then ((neonwrightlaw04_same.f k t135 (([0, 1, 3, 7, 6] : List Int))).bind fun t153 => (if t153 = true then (if t140 = 0 then ((neonwrightlaw04_same.f k t139 (([0, 1, 3, 7, 6, 4] : List Int))).bind fun t157 => (if t157 = true then (if bt146.2 = 0 then ((neonwrightlaw04_same.f k bt146.1 (([0, 1, 3] : List Int))).bind fun t161 => (some t161)) else (some false)) else (some false))) else (some false)) else (some false))) else (some false)) else (some false)) else (some false))) = some r := by first | (rw [hy143]; with_reducible exact H) | (have H2_ := (Option.bind_some _ _).symm.trans H; rw [hy143]; with_reducible exact H2_) | (have H2_ := (Option.bind_some _ _).symm.trans H; with_reducible exact H2_) | with_reducible exact H | (rw [hy143]; exact H) | exact H
  have Ny143 := Aside0.mk hy143
  clear hy143
  replace H := Option.bind_eq_some_iff.mp H
  obtain ⟨⟨t146, t147⟩, A40, H⟩ := H
  replace H : (if t134 = 0 then (if t133 = 7 then (if t136 = 0 then ((neonwrightlaw04_same.f k t135 (([0, 1, 3, 7, 6] : List Int))).bind fun t153 => (if t153 = true then (if t140 = 0 then ((neonwrightlaw04_same.f k t139 (([0, 1, 3, 7, 6, 4] : List Int))).bind fun t157 => (if t157 = true then (if t147 = 0 then ((neonwrightlaw04_same.f k t146 (([0, 1, 3] : List Int))).bind fun t161 => (some t161)) else (some false)) else (some false))) else (some false)) else (some false))) else (some false)) else (some false)) else (some false)) = some r := H
  have A4 := Aside0.mk A40
  clear A40
  by_cases c5 : t134 = 0
  · rw [if_pos c5] at H
    have c5b0 : (t134 == 0) = true := beq_iff_eq.mpr c5
    have c5b1 : (t134 != 0) = false := bne_eq_false_iff_eq.mpr c5
    clear c5
    by_cases c6 : t133 = 7
    · rw [if_pos c6] at H
      have c6b0 : (t133 == 7) = true := beq_iff_eq.mpr c6
      have c6b1 : (t133 != 7) = false := bne_eq_false_iff_eq.mpr c6
      clear c6
      by_cases c7 : t136 = 0
      · rw [if_pos c7] at H
        have c7b0 : (t136 == 0) = true := beq_iff_eq.mpr c7
        have c7b1 : (t136 != 0) = false := bne_eq_false_iff_eq.mpr c7
        clear c7
        obtain ⟨y150, hy150⟩ : ∃ y_ : List Int, y_ = (([0, 1, 3, 7, 6] : List Int)) := ⟨_, rfl⟩
        replace H : ((neonwrightlaw04_same.f k t135 y150).bind fun t153 => (if t153 = true then (if t140 = 0 then ((neonwrightlaw04_same.f k t139 (([0, 1, 3, 7, 6, 4] : List Int))).bind fun t157 => (if t157 = true then (if t147 = 0 then ((neonwrightlaw04_same.f k t146 (([0, 1, 3] : List Int))).bind fun t161 => (some t161)) else (some false)) else (some false))) else (some false)) else (some false))) = some r := by first | (rw [hy150]; with_reducible exact H) | (have H2_ := (Option.bind_some _ _).symm.trans H; rw [hy150]; with_reducible exact H2_) | (have H2_ := (Option.bind_some _ _).symm.trans H; with_reducible exact H2_) | with_reducible exact H | (rw [hy150]; exact H) | exact H
        have Ny150 := Aside0.mk hy150
        clear hy150
        replace H := Option.bind_eq_some_iff.mp H
        obtain ⟨t153, A80, H⟩ := H
        replace H : (if t153 = true then (if t140 = 0 then ((neonwrightlaw04_same.f k t139 (([0, 1, 3, 7, 6, 4] : List Int))).bind fun t157 => (if t157 = true then (if t147 = 0 then ((neonwrightlaw04_same.f k t146 (([0, 1, 3] : List Int))).bind fun t161 => (some t161)) else (some false)) else (some false))) else (some false)) else (some false)) = some r := H
        have A8 := Aside0.mk A80
        clear A80
        by_cases c9 : t153 = true
        · subst c9
          have H1 : (if t140 = 0 then ((neonwrightlaw04_same.f k t139 (([0, 1, 3, 7, 6, 4] : List Int))).bind fun t157 => (if t157 = true then (if t147 = 0 then ((neonwrightlaw04_same.f k t146 (([0, 1, 3] : List Int))).bind fun t161 => (some t161)) else (some false)) else (some false))) else (some false)) = some r := by rw [if_pos rfl] at H; exact H
          clear H
          have H := H1
          clear H1
          by_cases c10 : t140 = 0
          · rw [if_pos c10] at H
            have c10b0 : (t140 == 0) = true := beq_iff_eq.mpr c10
            have c10b1 : (t140 != 0) = false := bne_eq_false_iff_eq.mpr c10
            clear c10
            obtain ⟨y154, hy154⟩ : ∃ y_ : List Int, y_ = (([0, 1, 3, 7, 6, 4] : List Int)) := ⟨_, rfl⟩
            replace H : ((neonwrightlaw04_same.f k t139 y154).bind fun t157 => (if t157 = true then (if t147 = 0 then ((neonwrightlaw04_same.f k t146 (([0, 1, 3] : List Int))).bind fun t161 => (some t161)) else (some false)) else (some false))) = some r := by first | (rw [hy154]; with_reducible exact H) | (have H2_ := (Option.bind_some _ _).symm.trans H; rw [hy154]; with_reducible exact H2_) | (have H2_ := (Option.bind_some _ _).symm.trans H; with_reducible exact H2_) | with_reducible exact H | (rw [hy154]; exact H) | exact H
            have Ny154 := Aside0.mk hy154
            clear hy154
            replace H := Option.bind_eq_some_iff.mp H
            obtain ⟨t157, A110, H⟩ := H
            replace H : (if t157 = true then (if t147 = 0 then ((neonwrightlaw04_same.f k t146 (([0, 1, 3] : List Int))).bind fun t161 => (some t161)) else (some false)) else (some false)) = some r := H
            have A11 := Aside0.mk A110
            clear A110
            by_cases c12 : t157 = true
            · subst c12
              have H1 : (if t147 = 0 then ((neonwrightlaw04_same.f k t146 (([0, 1, 3] : List Int))).bind fun t161 => (some t161)) else (some false)) = some r := by rw [if_pos rfl] at H; exact H
              clear H
              have H := H1
              clear H1
              by_cases c13 : t147 = 0
              · rw [if_pos c13] at H
                have c13b0 : (t147 == 0) = true := beq_iff_eq.mpr c13
                have c13b1 : (t147 != 0) = false := bne_eq_false_iff_eq.mpr c13
                clear c13
                obtain ⟨y158, hy158⟩ : ∃ y_ : List Int, y_ = (([0, 1, 3] : List Int)) := ⟨_, rfl⟩
                replace H : ((neonwrightlaw04_same.f k t146 y158).bind fun t161 => (some t161)) = some r := by first | (rw [hy158]; with_reducible exact H) | (have H2_ := (Option.bind_some _ _).symm.trans H; rw [hy158]; with_reducible exact H2_) | (have H2_ := (Option.bind_some _ _).symm.trans H; with_reducible exact H2_) | with_reducible exact H | (rw [hy158]; exact H) | exact H
                have Ny158 := Aside0.mk hy158
                clear hy158
                replace H := Option.bind_eq_some_iff.mp H
                obtain ⟨t161, A140, H⟩ := H
                replace H : (some t161) = some r := H
                have A14 := Aside0.mk A140
                clear A140
                obtain rfl := Option.some.inj H
                go_enter Try.func20, Try.ntmps20
                go_wp2_with (first | ((with_reducible refine gate_callee (f := 23) rfl ?_); refine goesL_ (some 10) rfl rfl Try.func23 (by kernel_rfl) rfl #[.int .i64 3, .int .i64 5] rfl (by (try simp only [List.map_toArray, List.map_cons, List.map_nil]); first | done | rfl | (simp only [List.length_drop, List.length_take]; rfl)) ?_; (with_reducible refine (flash_Gray.calls 3 5 t133 t134 _ A1.out).mono ?_); rintro e w' ⟨rfl, ⟨nd, rfl⟩⟩; refine ⟨_, rfl, ?_⟩) | ((with_reducible refine gate_callee (f := 17) rfl ?_); refine goesL_ (some 14) rfl rfl Try.func17 (by kernel_rfl) rfl #[.int .i64 3] rfl (by (try simp only [List.map_toArray, List.map_cons, List.map_nil]); first | done | rfl | (simp only [List.length_drop, List.length_take]; rfl)) ?_; (with_reducible refine (flash_Longest.calls 3 t135 t136 _ A2.out).mono ?_); rintro e w15 ⟨v137, rfl, ho0, hb⟩; refine ⟨_, rfl, ?_⟩; have n0_ := Aside0.mk (Kd.R_lower ho0 (below_size (by repeat (first | (with_reducible first | exact HB.out | apply below_alloc | apply pw_below_drewN | apply below_drew1) | exact HB.out)))); have n1_ := Aside0.mk (below_step (by repeat (first | (with_reducible first | exact HB.out | apply below_alloc | apply pw_below_drewN | apply below_drew1) | exact HB.out)) hb); clear HB; have HO138 := n0_; have HB := n1_; clear n0_ n1_; (try clear hb); (try clear hb2); (try clear hk); (try clear hi); (try clear ho0)) | ((with_reducible refine gate_callee (f := 18) rfl ?_); refine goesL_ (some 18) rfl rfl Try.func18 (by kernel_rfl) rfl #[.int .i64 3] rfl (by (try simp only [List.map_toArray, List.map_cons, List.map_nil]); first | done | rfl | (simp only [List.length_drop, List.length_take]; rfl)) ?_; (with_reducible refine (flash_Coil.calls 3 t139 t140 _ A3.out).mono ?_); rintro e w16 ⟨v141, rfl, ho0, hb⟩; refine ⟨_, rfl, ?_⟩; have n0_ := Aside0.mk (Kd.R_elder' (by (with_reducible repeat (first | apply Kd.R_alloc | apply Kd.R_drewN | apply Kd.R_drew)); exact HO138.out) (Kd.R_base ho0) hb); have n1_ := Aside0.mk (Kd.R_lower (Kd.R_new' ho0 (Kd.R_lt (by (with_reducible repeat (first | apply Kd.R_alloc | apply Kd.R_drewN | apply Kd.R_drew)); exact HO138.out))) (below_size (by repeat (first | (with_reducible first | exact HB.out | apply below_alloc | apply pw_below_drewN | apply below_drew1) | exact HB.out)))); have n2_ := Aside0.mk (below_step (by repeat (first | (with_reducible first | exact HB.out | apply below_alloc | apply pw_below_drewN | apply below_drew1) | exact HB.out)) hb); clear HO138; clear HB; have HO138 := n0_; have HO142 := n1_; have HB := n2_; clear n0_ n1_ n2_; (try clear hb); (try clear hb2); (try clear hk); (try clear hi); (try clear ho0)) | ((with_reducible refine gate_dst (N := 22) rfl ?_); (try (refine gate_guard (by rfl) ?_; dsimp only)); refine Kd.R_lit (Kd.int .i64) _ 3 ?hg (N := 22) ?hd (xs := ([5, 4, 6] : List Int)) (inner := [.int .i64 5, .int .i64 4, .int .i64 6]) (ok := fun _ => True) (okp := fun _ => True) ?hr ?hp (fun _ hk => hk) trivial (Below.refl _ _) (Nat.le_refl _) (by simp) ?_; (case hd => rfl); (case hg => rfl); (case hr => first | (go_simp; done) | (go_simp; rfl)); (case hp => exact (Reps.one (show Kd.M (Kd.int .i64) _ _ _ 5 [.int .i64 5] from rfl) (Reps.one (show Kd.M (Kd.int .i64) _ _ _ 4 [.int .i64 4] from rfl) (Reps.one (show Kd.M (Kd.int .i64) _ _ _ 6 [.int .i64 6] from rfl) (Reps.none _ _))))); intro v144 w17 ho18 hb hg_ hnew_; clear hg_ hnew_; (first | rw [← Ny143.out] at ho18 | (simp only [Int.reduceToNat] at ho18; rw [← Ny143.out] at ho18)); have n0_ := Aside0.mk (Kd.R_elder' (by (with_reducible repeat (first | apply Kd.R_alloc | apply Kd.R_drewN | apply Kd.R_drew)); exact HO138.out) (Kd.R_base ho18) hb); have n1_ := Aside0.mk (Kd.R_elder' (by (with_reducible repeat (first | apply Kd.R_alloc | apply Kd.R_drewN | apply Kd.R_drew)); exact HO142.out) (Kd.R_base ho18) hb); have n2_ := Aside0.mk (Kd.R_lower (Kd.R_new' (Kd.R_new' ho18 (Kd.R_lt (by (with_reducible repeat (first | apply Kd.R_alloc | apply Kd.R_drewN | apply Kd.R_drew)); exact HO138.out))) (Kd.R_lt (by (with_reducible repeat (first | apply Kd.R_alloc | apply Kd.R_drewN | apply Kd.R_drew)); exact HO142.out))) (below_size (by repeat (first | (with_reducible first | exact HB.out | apply below_alloc | apply pw_below_drewN | apply below_drew1) | exact HB.out)))); have n3_ := Aside0.mk (below_step (by repeat (first | (with_reducible first | exact HB.out | apply below_alloc | apply pw_below_drewN | apply below_drew1) | exact HB.out)) hb); clear HO138; clear HO142; clear HB; have HO138 := n0_; have HO142 := n1_; have HO145 := n2_; have HB := n3_; clear n0_ n1_ n2_ n3_; clear hb ho18; obtain ⟨Ao19, co19, eo19⟩ := Kd.R_slice HO145.out; subst eo19) | ((with_reducible refine gate_callee (f := 33) rfl ?_); refine goesL_ (some 23) rfl rfl Try.func33 (by kernel_rfl) rfl #[.int .i64 3, .slice Ao19 y143.length co19] rfl (by (try simp only [List.map_toArray, List.map_cons, List.map_nil]); first | done | rfl | (simp only [List.length_drop, List.length_take]; rfl)) ?_; (with_reducible refine (flash_Normal.calls 3 _ _ y143 t146 t147 _ ?side1 ?side2 A4.out).mono ?_); (case side1 => repeat (first | exact (Kd.R_reads' HO145.out).2.2 | (with_reducible refine Kd.C_alloc ?_ _) | (with_reducible refine Kd.C_drewN ?_ _) | (with_reducible refine Kd.C_drew ?_))); (case side2 => exact (Kd.R_reads' HO145.out).2.1); rintro e w20 ⟨v148, rfl, ho0, hb⟩; refine ⟨_, rfl, ?_⟩; have n0_ := Aside0.mk (Kd.R_elder' (by (with_reducible repeat (first | apply Kd.R_alloc | apply Kd.R_drewN | apply Kd.R_drew)); exact HO138.out) (Kd.R_base ho0) hb); have n1_ := Aside0.mk (Kd.R_elder' (by (with_reducible repeat (first | apply Kd.R_alloc | apply Kd.R_drewN | apply Kd.R_drew)); exact HO142.out) (Kd.R_base ho0) hb); have n2_ := Aside0.mk (Kd.R_elder' (by (with_reducible repeat (first | apply Kd.R_alloc | apply Kd.R_drewN | apply Kd.R_drew)); exact HO145.out) (Kd.R_base ho0) hb); have n3_ := Aside0.mk (Kd.R_lower (Kd.R_new' (Kd.R_new' (Kd.R_new' ho0 (Kd.R_lt (by (with_reducible repeat (first | apply Kd.R_alloc | apply Kd.R_drewN | apply Kd.R_drew)); exact HO138.out))) (Kd.R_lt (by (with_reducible repeat (first | apply Kd.R_alloc | apply Kd.R_drewN | apply Kd.R_drew)); exact HO142.out))) (Kd.R_lt (by (with_reducible repeat (first | apply Kd.R_alloc | apply Kd.R_drewN | apply Kd.R_drew)); exact HO145.out))) (below_size (by repeat (first | (with_reducible first | exact HB.out | apply below_alloc | apply pw_below_drewN | apply below_drew1) | exact HB.out)))); have n4_ := Aside0.mk (below_step (by repeat (first | (with_reducible first | exact HB.out | apply below_alloc | apply pw_below_drewN | apply below_drew1) | exact HB.out)) hb); clear HO138; clear HO142; clear HO145; clear HB; have HO138 := n0_; have HO142 := n1_; have HO145 := n2_; have HO149 := n3_; have HB := n4_; clear n0_ n1_ n2_ n3_ n4_; (try clear hb); (try clear hb2); (try clear hk); (try clear hi); (try clear ho0)) | ((with_reducible refine gate_dst (N := 38) rfl ?_); (try (refine gate_guard (by rfl) ?_; dsimp only)); refine Kd.R_lit (Kd.int .i64) _ 3 ?hg (N := 38) ?hd (xs := ([0, 1, 3, 7, 6] : List Int)) (inner := [.int .i64 0, .int .i64 1, .int .i64 3, .int .i64 7, .int .i64 6]) (ok := fun _ => True) (okp := fun _ => True) ?hr ?hp (fun _ hk => hk) trivial (Below.refl _ _) (Nat.le_refl _) (by simp) ?_; (case hd => rfl); (case hg => rfl); (case hr => first | (go_simp; done) | (go_simp; rfl)); (case hp => exact (Reps.one (show Kd.M (Kd.int .i64) _ _ _ 0 [.int .i64 0] from rfl) (Reps.one (show Kd.M (Kd.int .i64) _ _ _ 1 [.int .i64 1] from rfl) (Reps.one (show Kd.M (Kd.int .i64) _ _ _ 3 [.int .i64 3] from rfl) (Reps.one (show Kd.M (Kd.int .i64) _ _ _ 7 [.int .i64 7] from rfl) (Reps.one (show Kd.M (Kd.int .i64) _ _ _ 6 [.int .i64 6] from rfl) (Reps.none _ _))))))); intro v151 w21 ho22 hb hg_ hnew_; clear hg_ hnew_; (first | rw [← Ny150.out] at ho22 | (simp only [Int.reduceToNat] at ho22; rw [← Ny150.out] at ho22)); have n0_ := Aside0.mk (Kd.R_elder' (by (with_reducible repeat (first | apply Kd.R_alloc | apply Kd.R_drewN | apply Kd.R_drew)); exact HO138.out) (Kd.R_base ho22) hb); have n1_ := Aside0.mk (Kd.R_elder' (by (with_reducible repeat (first | apply Kd.R_alloc | apply Kd.R_drewN | apply Kd.R_drew)); exact HO142.out) (Kd.R_base ho22) hb); have n2_ := Aside0.mk (Kd.R_elder' (by (with_reducible repeat (first | apply Kd.R_alloc | apply Kd.R_drewN | apply Kd.R_drew)); exact HO145.out) (Kd.R_base ho22) hb); have n3_ := Aside0.mk (Kd.R_elder' (by (with_reducible repeat (first | apply Kd.R_alloc | apply Kd.R_drewN | apply Kd.R_drew)); exact HO149.out) (Kd.R_base ho22) hb); have n4_ := Aside0.mk (Kd.R_lower (Kd.R_new' (Kd.R_new' (Kd.R_new' (Kd.R_new' ho22 (Kd.R_lt (by (with_reducible repeat (first | apply Kd.R_alloc | apply Kd.R_drewN | apply Kd.R_drew)); exact HO138.out))) (Kd.R_lt (by (with_reducible repeat (first | apply Kd.R_alloc | apply Kd.R_drewN | apply Kd.R_drew)); exact HO142.out))) (Kd.R_lt (by (with_reducible repeat (first | apply Kd.R_alloc | apply Kd.R_drewN | apply Kd.R_drew)); exact HO145.out))) (Kd.R_lt (by (with_reducible repeat (first | apply Kd.R_alloc | apply Kd.R_drewN | apply Kd.R_drew)); exact HO149.out))) (below_size (by repeat (first | (with_reducible first | exact HB.out | apply below_alloc | apply pw_below_drewN | apply below_drew1) | exact HB.out)))); have n5_ := Aside0.mk (below_step (by repeat (first | (with_reducible first | exact HB.out | apply below_alloc | apply pw_below_drewN | apply below_drew1) | exact HB.out)) hb); clear HO138; clear HO142; clear HO145; clear HO149; clear HB; have HO138 := n0_; have HO142 := n1_; have HO145 := n2_; have HO149 := n3_; have HO152 := n4_; have HB := n5_; clear n0_ n1_ n2_ n3_ n4_ n5_; clear hb ho22; obtain ⟨Ao23, co23, eo23⟩ := Kd.R_slice HO138.out; subst eo23; obtain ⟨Ao24, co24, eo24⟩ := Kd.R_slice HO152.out; subst eo24) | (go_at_call 19; (with_reducible refine (neonwrightlaw04_same.calls k _ _ t135 _ _ y150 true _ ?side1 ?side2 ?side3 ?side4 A8.out).mono ?_); (case side1 => repeat (first | exact (Kd.R_reads' HO138.out).2.2 | (with_reducible refine Kd.C_alloc ?_ _) | (with_reducible refine Kd.C_drewN ?_ _) | (with_reducible refine Kd.C_drew ?_))); (case side2 => exact (Kd.R_reads' HO138.out).2.1); (case side3 => repeat (first | exact (Kd.R_reads' HO152.out).2.2 | (with_reducible refine Kd.C_alloc ?_ _) | (with_reducible refine Kd.C_drewN ?_ _) | (with_reducible refine Kd.C_drew ?_))); (case side4 => exact (Kd.R_reads' HO152.out).2.1); rintro e w' ⟨rfl, ⟨nd, rfl⟩⟩) | ((with_reducible refine gate_dst (N := 47) rfl ?_); (try (refine gate_guard (by rfl) ?_; dsimp only)); refine Kd.R_lit (Kd.int .i64) _ 3 ?hg (N := 47) ?hd (xs := ([0, 1, 3, 7, 6, 4] : List Int)) (inner := [.int .i64 0, .int .i64 1, .int .i64 3, .int .i64 7, .int .i64 6, .int .i64 4]) (ok := fun _ => True) (okp := fun _ => True) ?hr ?hp (fun _ hk => hk) trivial (Below.refl _ _) (Nat.le_refl _) (by simp) ?_; (case hd => rfl); (case hg => rfl); (case hr => first | (go_simp; done) | (go_simp; rfl)); (case hp => exact (Reps.one (show Kd.M (Kd.int .i64) _ _ _ 0 [.int .i64 0] from rfl) (Reps.one (show Kd.M (Kd.int .i64) _ _ _ 1 [.int .i64 1] from rfl) (Reps.one (show Kd.M (Kd.int .i64) _ _ _ 3 [.int .i64 3] from rfl) (Reps.one (show Kd.M (Kd.int .i64) _ _ _ 7 [.int .i64 7] from rfl) (Reps.one (show Kd.M (Kd.int .i64) _ _ _ 6 [.int .i64 6] from rfl) (Reps.one (show Kd.M (Kd.int .i64) _ _ _ 4 [.int .i64 4] from rfl) (Reps.none _ _)))))))); intro v155 w25 ho26 hb hg_ hnew_; clear hg_ hnew_; (first | rw [← Ny154.out] at ho26 | (simp only [Int.reduceToNat] at ho26; rw [← Ny154.out] at ho26)); have n0_ := Aside0.mk (Kd.R_elder' (by (with_reducible repeat (first | apply Kd.R_alloc | apply Kd.R_drewN | apply Kd.R_drew)); exact HO138.out) (Kd.R_base ho26) hb); have n1_ := Aside0.mk (Kd.R_elder' (by (with_reducible repeat (first | apply Kd.R_alloc | apply Kd.R_drewN | apply Kd.R_drew)); exact HO142.out) (Kd.R_base ho26) hb); have n2_ := Aside0.mk (Kd.R_elder' (by (with_reducible repeat (first | apply Kd.R_alloc | apply Kd.R_drewN | apply Kd.R_drew)); exact HO145.out) (Kd.R_base ho26) hb); have n3_ := Aside0.mk (Kd.R_elder' (by (with_reducible repeat (first | apply Kd.R_alloc | apply Kd.R_drewN | apply Kd.R_drew)); exact HO149.out) (Kd.R_base ho26) hb); have n4_ := Aside0.mk (Kd.R_elder' (by (with_reducible repeat (first | apply Kd.R_alloc | apply Kd.R_drewN | apply Kd.R_drew)); exact HO152.out) (Kd.R_base ho26) hb); have n5_ := Aside0.mk (Kd.R_lower (Kd.R_new' (Kd.R_new' (Kd.R_new' (Kd.R_new' (Kd.R_new' ho26 (Kd.R_lt (by (with_reducible repeat (first | apply Kd.R_alloc | apply Kd.R_drewN | apply Kd.R_drew)); exact HO138.out))) (Kd.R_lt (by (with_reducible repeat (first | apply Kd.R_alloc | apply Kd.R_drewN | apply Kd.R_drew)); exact HO142.out))) (Kd.R_lt (by (with_reducible repeat (first | apply Kd.R_alloc | apply Kd.R_drewN | apply Kd.R_drew)); exact HO145.out))) (Kd.R_lt (by (with_reducible repeat (first | apply Kd.R_alloc | apply Kd.R_drewN | apply Kd.R_drew)); exact HO149.out))) (Kd.R_lt (by (with_reducible repeat (first | apply Kd.R_alloc | apply Kd.R_drewN | apply Kd.R_drew)); exact HO152.out))) (below_size (by repeat (first | (with_reducible first | exact HB.out | apply below_alloc | apply pw_below_drewN | apply below_drew1) | exact HB.out)))); have n6_ := Aside0.mk (below_step (by repeat (first | (with_reducible first | exact HB.out | apply below_alloc | apply pw_below_drewN | apply below_drew1) | exact HB.out)) hb); clear HO138; clear HO142; clear HO145; clear HO149; clear HO152; clear HB; have HO138 := n0_; have HO142 := n1_; have HO145 := n2_; have HO149 := n3_; have HO152 := n4_; have HO156 := n5_; have HB := n6_; clear n0_ n1_ n2_ n3_ n4_ n5_ n6_; clear hb ho26; obtain ⟨Ao27, co27, eo27⟩ := Kd.R_slice HO142.out; subst eo27; obtain ⟨Ao28, co28, eo28⟩ := Kd.R_slice HO156.out; subst eo28) | (go_at_call 19; (with_reducible refine (neonwrightlaw04_same.calls k _ _ t139 _ _ y154 true _ ?side1 ?side2 ?side3 ?side4 A11.out).mono ?_); (case side1 => repeat (first | exact (Kd.R_reads' HO142.out).2.2 | (with_reducible refine Kd.C_alloc ?_ _) | (with_reducible refine Kd.C_drewN ?_ _) | (with_reducible refine Kd.C_drew ?_))); (case side2 => exact (Kd.R_reads' HO142.out).2.1); (case side3 => repeat (first | exact (Kd.R_reads' HO156.out).2.2 | (with_reducible refine Kd.C_alloc ?_ _) | (with_reducible refine Kd.C_drewN ?_ _) | (with_reducible refine Kd.C_drew ?_))); (case side4 => exact (Kd.R_reads' HO156.out).2.1); rintro e w' ⟨rfl, ⟨nd, rfl⟩⟩) | ((with_reducible refine gate_dst (N := 56) rfl ?_); (try (refine gate_guard (by rfl) ?_; dsimp only)); refine Kd.R_lit (Kd.int .i64) _ 3 ?hg (N := 56) ?hd (xs := ([0, 1, 3] : List Int)) (inner := [.int .i64 0, .int .i64 1, .int .i64 3]) (ok := fun _ => True) (okp := fun _ => True) ?hr ?hp (fun _ hk => hk) trivial (Below.refl _ _) (Nat.le_refl _) (by simp) ?_; (case hd => rfl); (case hg => rfl); (case hr => first | (go_simp; done) | (go_simp; rfl)); (case hp => exact (Reps.one (show Kd.M (Kd.int .i64) _ _ _ 0 [.int .i64 0] from rfl) (Reps.one (show Kd.M (Kd.int .i64) _ _ _ 1 [.int .i64 1] from rfl) (Reps.one (show Kd.M (Kd.int .i64) _ _ _ 3 [.int .i64 3] from rfl) (Reps.none _ _))))); intro v159 w29 ho30 hb hg_ hnew_; clear hg_ hnew_; (first | rw [← Ny158.out] at ho30 | (simp only [Int.reduceToNat] at ho30; rw [← Ny158.out] at ho30)); have n0_ := Aside0.mk (Kd.R_elder' (by (with_reducible repeat (first | apply Kd.R_alloc | apply Kd.R_drewN | apply Kd.R_drew)); exact HO138.out) (Kd.R_base ho30) hb); have n1_ := Aside0.mk (Kd.R_elder' (by (with_reducible repeat (first | apply Kd.R_alloc | apply Kd.R_drewN | apply Kd.R_drew)); exact HO142.out) (Kd.R_base ho30) hb); have n2_ := Aside0.mk (Kd.R_elder' (by (with_reducible repeat (first | apply Kd.R_alloc | apply Kd.R_drewN | apply Kd.R_drew)); exact HO145.out) (Kd.R_base ho30) hb); have n3_ := Aside0.mk (Kd.R_elder' (by (with_reducible repeat (first | apply Kd.R_alloc | apply Kd.R_drewN | apply Kd.R_drew)); exact HO149.out) (Kd.R_base ho30) hb); have n4_ := Aside0.mk (Kd.R_elder' (by (with_reducible repeat (first | apply Kd.R_alloc | apply Kd.R_drewN | apply Kd.R_drew)); exact HO152.out) (Kd.R_base ho30) hb); have n5_ := Aside0.mk (Kd.R_elder' (by (with_reducible repeat (first | apply Kd.R_alloc | apply Kd.R_drewN | apply Kd.R_drew)); exact HO156.out) (Kd.R_base ho30) hb); have n6_ := Aside0.mk (Kd.R_lower (Kd.R_new' (Kd.R_new' (Kd.R_new' (Kd.R_new' (Kd.R_new' (Kd.R_new' ho30 (Kd.R_lt (by (with_reducible repeat (first | apply Kd.R_alloc | apply Kd.R_drewN | apply Kd.R_drew)); exact HO138.out))) (Kd.R_lt (by (with_reducible repeat (first | apply Kd.R_alloc | apply Kd.R_drewN | apply Kd.R_drew)); exact HO142.out))) (Kd.R_lt (by (with_reducible repeat (first | apply Kd.R_alloc | apply Kd.R_drewN | apply Kd.R_drew)); exact HO145.out))) (Kd.R_lt (by (with_reducible repeat (first | apply Kd.R_alloc | apply Kd.R_drewN | apply Kd.R_drew)); exact HO149.out))) (Kd.R_lt (by (with_reducible repeat (first | apply Kd.R_alloc | apply Kd.R_drewN | apply Kd.R_drew)); exact HO152.out))) (Kd.R_lt (by (with_reducible repeat (first | apply Kd.R_alloc | apply Kd.R_drewN | apply Kd.R_drew)); exact HO156.out))) (below_size (by repeat (first | (with_reducible first | exact HB.out | apply below_alloc | apply pw_below_drewN | apply below_drew1) | exact HB.out)))); have n7_ := Aside0.mk (below_step (by repeat (first | (with_reducible first | exact HB.out | apply below_alloc | apply pw_below_drewN | apply below_drew1) | exact HB.out)) hb); clear HO138; clear HO142; clear HO145; clear HO149; clear HO152; clear HO156; clear HB; have HO138 := n0_; have HO142 := n1_; have HO145 := n2_; have HO149 := n3_; have HO152 := n4_; have HO156 := n5_; have HO160 := n6_; have HB := n7_; clear n0_ n1_ n2_ n3_ n4_ n5_ n6_ n7_; clear hb ho30; obtain ⟨Ao31, co31, eo31⟩ := Kd.R_slice HO149.out; subst eo31; obtain ⟨Ao32, co32, eo32⟩ := Kd.R_slice HO160.out; subst eo32) | (go_at_call 19; (with_reducible refine (neonwrightlaw04_same.calls k _ _ t146 _ _ y158 t161 _ ?side1 ?side2 ?side3 ?side4 A14.out).mono ?_); (case side1 => repeat (first | exact (Kd.R_reads' HO149.out).2.2 | (with_reducible refine Kd.C_alloc ?_ _) | (with_reducible refine Kd.C_drewN ?_ _) | (with_reducible refine Kd.C_drew ?_))); (case side2 => exact (Kd.R_reads' HO149.out).2.1); (case side3 => repeat (first | exact (Kd.R_reads' HO160.out).2.2 | (with_reducible refine Kd.C_alloc ?_ _) | (with_reducible refine Kd.C_drewN ?_ _) | (with_reducible refine Kd.C_drew ?_))); (case side4 => exact (Kd.R_reads' HO160.out).2.1); rintro e w' ⟨rfl, ⟨nd, rfl⟩⟩))
                go_ret
                exact ⟨by first | rfl | (simp [errW_none, errW_some] <;> rfl) | (simp [*, errW_none, errW_some] <;> rfl), by repeat (first | (with_reducible first | exact HB.out | apply below_alloc | apply pw_below_drewN | apply below_drew1) | exact HB.out)⟩
              · rw [if_neg c13] at H
                have c13b0 : (t147 == 0) = false := beq_eq_false_iff_ne.mpr c13
                have c13b1 : (t147 != 0) = true := bne_iff_ne.mpr c13
                obtain rfl := Option.some.inj H
                go_enter Try.func20, Try.ntmps20
                go_wp2_with (first | ((with_reducible refine gate_callee (f := 23) rfl ?_); refine goesL_ (some 10) rfl rfl Try.func23 (by kernel_rfl) rfl #[.int .i64 3, .int .i64 5] rfl (by (try simp only [List.map_toArray, List.map_cons, List.map_nil]); first | done | rfl | (simp only [List.length_drop, List.length_take]; rfl)) ?_; (with_reducible refine (flash_Gray.calls 3 5 t133 t134 _ A1.out).mono ?_); rintro e w' ⟨rfl, ⟨nd, rfl⟩⟩; refine ⟨_, rfl, ?_⟩) | ((with_reducible refine gate_callee (f := 17) rfl ?_); refine goesL_ (some 14) rfl rfl Try.func17 (by kernel_rfl) rfl #[.int .i64 3] rfl (by (try simp only [List.map_toArray, List.map_cons, List.map_nil]); first | done | rfl | (simp only [List.length_drop, List.length_take]; rfl)) ?_; (with_reducible refine (flash_Longest.calls 3 t135 t136 _ A2.out).mono ?_); rintro e w33 ⟨v137, rfl, ho0, hb⟩; refine ⟨_, rfl, ?_⟩; have n0_ := Aside0.mk (Kd.R_lower ho0 (below_size (by repeat (first | (with_reducible first | exact HB.out | apply below_alloc | apply pw_below_drewN | apply below_drew1) | exact HB.out)))); have n1_ := Aside0.mk (below_step (by repeat (first | (with_reducible first | exact HB.out | apply below_alloc | apply pw_below_drewN | apply below_drew1) | exact HB.out)) hb); clear HB; have HO138 := n0_; have HB := n1_; clear n0_ n1_; (try clear hb); (try clear hb2); (try clear hk); (try clear hi); (try clear ho0)) | ((with_reducible refine gate_callee (f := 18) rfl ?_); refine goesL_ (some 18) rfl rfl Try.func18 (by kernel_rfl) rfl #[.int .i64 3] rfl (by (try simp only [List.map_toArray, List.map_cons, List.map_nil]); first | done | rfl | (simp only [List.length_drop, List.length_take]; rfl)) ?_; (with_reducible refine (flash_Coil.calls 3 t139 t140 _ A3.out).mono ?_); rintro e w34 ⟨v141, rfl, ho0, hb⟩; refine ⟨_, rfl, ?_⟩; have n0_ := Aside0.mk (Kd.R_elder' (by (with_reducible repeat (first | apply Kd.R_alloc | apply Kd.R_drewN | apply Kd.R_drew)); exact HO138.out) (Kd.R_base ho0) hb); have n1_ := Aside0.mk (Kd.R_lower (Kd.R_new' ho0 (Kd.R_lt (by (with_reducible repeat (first | apply Kd.R_alloc | apply Kd.R_drewN | apply Kd.R_drew)); exact HO138.out))) (below_size (by repeat (first | (with_reducible first | exact HB.out | apply below_alloc | apply pw_below_drewN | apply below_drew1) | exact HB.out)))); have n2_ := Aside0.mk (below_step (by repeat (first | (with_reducible first | exact HB.out | apply below_alloc | apply pw_below_drewN | apply below_drew1) | exact HB.out)) hb); clear HO138; clear HB; have HO138 := n0_; have HO142 := n1_; have HB := n2_; clear n0_ n1_ n2_; (try clear hb); (try clear hb2); (try clear hk); (try clear hi); (try clear ho0)) | ((with_reducible refine gate_dst (N := 22) rfl ?_); (try (refine gate_guard (by rfl) ?_; dsimp only)); refine Kd.R_lit (Kd.int .i64) _ 3 ?hg (N := 22) ?hd (xs := ([5, 4, 6] : List Int)) (inner := [.int .i64 5, .int .i64 4, .int .i64 6]) (ok := fun _ => True) (okp := fun _ => True) ?hr ?hp (fun _ hk => hk) trivial (Below.refl _ _) (Nat.le_refl _) (by simp) ?_; (case hd => rfl); (case hg => rfl); (case hr => first | (go_simp; done) | (go_simp; rfl)); (case hp => exact (Reps.one (show Kd.M (Kd.int .i64) _ _ _ 5 [.int .i64 5] from rfl) (Reps.one (show Kd.M (Kd.int .i64) _ _ _ 4 [.int .i64 4] from rfl) (Reps.one (show Kd.M (Kd.int .i64) _ _ _ 6 [.int .i64 6] from rfl) (Reps.none _ _))))); intro v144 w35 ho36 hb hg_ hnew_; clear hg_ hnew_; (first | rw [← Ny143.out] at ho36 | (simp only [Int.reduceToNat] at ho36; rw [← Ny143.out] at ho36)); have n0_ := Aside0.mk (Kd.R_elder' (by (with_reducible repeat (first | apply Kd.R_alloc | apply Kd.R_drewN | apply Kd.R_drew)); exact HO138.out) (Kd.R_base ho36) hb); have n1_ := Aside0.mk (Kd.R_elder' (by (with_reducible repeat (first | apply Kd.R_alloc | apply Kd.R_drewN | apply Kd.R_drew)); exact HO142.out) (Kd.R_base ho36) hb); have n2_ := Aside0.mk (Kd.R_lower (Kd.R_new' (Kd.R_new' ho36 (Kd.R_lt (by (with_reducible repeat (first | apply Kd.R_alloc | apply Kd.R_drewN | apply Kd.R_drew)); exact HO138.out))) (Kd.R_lt (by (with_reducible repeat (first | apply Kd.R_alloc | apply Kd.R_drewN | apply Kd.R_drew)); exact HO142.out))) (below_size (by repeat (first | (with_reducible first | exact HB.out | apply below_alloc | apply pw_below_drewN | apply below_drew1) | exact HB.out)))); have n3_ := Aside0.mk (below_step (by repeat (first | (with_reducible first | exact HB.out | apply below_alloc | apply pw_below_drewN | apply below_drew1) | exact HB.out)) hb); clear HO138; clear HO142; clear HB; have HO138 := n0_; have HO142 := n1_; have HO145 := n2_; have HB := n3_; clear n0_ n1_ n2_ n3_; clear hb ho36; obtain ⟨Ao37, co37, eo37⟩ := Kd.R_slice HO145.out; subst eo37) | ((with_reducible refine gate_callee (f := 33) rfl ?_); refine goesL_ (some 23) rfl rfl Try.func33 (by kernel_rfl) rfl #[.int .i64 3, .slice Ao37 y143.length co37] rfl (by (try simp only [List.map_toArray, List.map_cons, List.map_nil]); first | done | rfl | (simp only [List.length_drop, List.length_take]; rfl)) ?_; (with_reducible refine (flash_Normal.calls 3 _ _ y143 t146 t147 _ ?side1 ?side2 A4.out).mono ?_); (case side1 => repeat (first | exact (Kd.R_reads' HO145.out).2.2 | (with_reducible refine Kd.C_alloc ?_ _) | (with_reducible refine Kd.C_drewN ?_ _) | (with_reducible refine Kd.C_drew ?_))); (case side2 => exact (Kd.R_reads' HO145.out).2.1); rintro e w38 ⟨v148, rfl, ho0, hb⟩; refine ⟨_, rfl, ?_⟩; have n0_ := Aside0.mk (Kd.R_elder' (by (with_reducible repeat (first | apply Kd.R_alloc | apply Kd.R_drewN | apply Kd.R_drew)); exact HO138.out) (Kd.R_base ho0) hb); have n1_ := Aside0.mk (Kd.R_elder' (by (with_reducible repeat (first | apply Kd.R_alloc | apply Kd.R_drewN | apply Kd.R_drew)); exact HO142.out) (Kd.R_base ho0) hb); have n2_ := Aside0.mk (Kd.R_elder' (by (with_reducible repeat (first | apply Kd.R_alloc | apply Kd.R_drewN | apply Kd.R_drew)); exact HO145.out) (Kd.R_base ho0) hb); have n3_ := Aside0.mk (Kd.R_lower (Kd.R_new' (Kd.R_new' (Kd.R_new' ho0 (Kd.R_lt (by (with_reducible repeat (first | apply Kd.R_alloc | apply Kd.R_drewN | apply Kd.R_drew)); exact HO138.out))) (Kd.R_lt (by (with_reducible repeat (first | apply Kd.R_alloc | apply Kd.R_drewN | apply Kd.R_drew)); exact HO142.out))) (Kd.R_lt (by (with_reducible repeat (first | apply Kd.R_alloc | apply Kd.R_drewN | apply Kd.R_drew)); exact HO145.out))) (below_size (by repeat (first | (with_reducible first | exact HB.out | apply below_alloc | apply pw_below_drewN | apply below_drew1) | exact HB.out)))); have n4_ := Aside0.mk (below_step (by repeat (first | (with_reducible first | exact HB.out | apply below_alloc | apply pw_below_drewN | apply below_drew1) | exact HB.out)) hb); clear HO138; clear HO142; clear HO145; clear HB; have HO138 := n0_; have HO142 := n1_; have HO145 := n2_; have HO149 := n3_; have HB := n4_; clear n0_ n1_ n2_ n3_ n4_; (try clear hb); (try clear hb2); (try clear hk); (try clear hi); (try clear ho0)) | ((with_reducible refine gate_dst (N := 38) rfl ?_); (try (refine gate_guard (by rfl) ?_; dsimp only)); refine Kd.R_lit (Kd.int .i64) _ 3 ?hg (N := 38) ?hd (xs := ([0, 1, 3, 7, 6] : List Int)) (inner := [.int .i64 0, .int .i64 1, .int .i64 3, .int .i64 7, .int .i64 6]) (ok := fun _ => True) (okp := fun _ => True) ?hr ?hp (fun _ hk => hk) trivial (Below.refl _ _) (Nat.le_refl _) (by simp) ?_; (case hd => rfl); (case hg => rfl); (case hr => first | (go_simp; done) | (go_simp; rfl)); (case hp => exact (Reps.one (show Kd.M (Kd.int .i64) _ _ _ 0 [.int .i64 0] from rfl) (Reps.one (show Kd.M (Kd.int .i64) _ _ _ 1 [.int .i64 1] from rfl) (Reps.one (show Kd.M (Kd.int .i64) _ _ _ 3 [.int .i64 3] from rfl) (Reps.one (show Kd.M (Kd.int .i64) _ _ _ 7 [.int .i64 7] from rfl) (Reps.one (show Kd.M (Kd.int .i64) _ _ _ 6 [.int .i64 6] from rfl) (Reps.none _ _))))))); intro v151 w39 ho40 hb hg_ hnew_; clear hg_ hnew_; (first | rw [← Ny150.out] at ho40 | (simp only [Int.reduceToNat] at ho40; rw [← Ny150.out] at ho40)); have n0_ := Aside0.mk (Kd.R_elder' (by (with_reducible repeat (first | apply Kd.R_alloc | apply Kd.R_drewN | apply Kd.R_drew)); exact HO138.out) (Kd.R_base ho40) hb); have n1_ := Aside0.mk (Kd.R_elder' (by (with_reducible repeat (first | apply Kd.R_alloc | apply Kd.R_drewN | apply Kd.R_drew)); exact HO142.out) (Kd.R_base ho40) hb); have n2_ := Aside0.mk (Kd.R_elder' (by (with_reducible repeat (first | apply Kd.R_alloc | apply Kd.R_drewN | apply Kd.R_drew)); exact HO145.out) (Kd.R_base ho40) hb); have n3_ := Aside0.mk (Kd.R_elder' (by (with_reducible repeat (first | apply Kd.R_alloc | apply Kd.R_drewN | apply Kd.R_drew)); exact HO149.out) (Kd.R_base ho40) hb); have n4_ := Aside0.mk (Kd.R_lower (Kd.R_new' (Kd.R_new' (Kd.R_new' (Kd.R_new' ho40 (Kd.R_lt (by (with_reducible repeat (first | apply Kd.R_alloc | apply Kd.R_drewN | apply Kd.R_drew)); exact HO138.out))) (Kd.R_lt (by (with_reducible repeat (first | apply Kd.R_alloc | apply Kd.R_drewN | apply Kd.R_drew)); exact HO142.out))) (Kd.R_lt (by (with_reducible repeat (first | apply Kd.R_alloc | apply Kd.R_drewN | apply Kd.R_drew)); exact HO145.out))) (Kd.R_lt (by (with_reducible repeat (first | apply Kd.R_alloc | apply Kd.R_drewN | apply Kd.R_drew)); exact HO149.out))) (below_size (by repeat (first | (with_reducible first | exact HB.out | apply below_alloc | apply pw_below_drewN | apply below_drew1) | exact HB.out)))); have n5_ := Aside0.mk (below_step (by repeat (first | (with_reducible first | exact HB.out | apply below_alloc | apply pw_below_drewN | apply below_drew1) | exact HB.out)) hb); clear HO138; clear HO142; clear HO145; clear HO149; clear HB; have HO138 := n0_; have HO142 := n1_; have HO145 := n2_; have HO149 := n3_; have HO152 := n4_; have HB := n5_; clear n0_ n1_ n2_ n3_ n4_ n5_; clear hb ho40; obtain ⟨Ao41, co41, eo41⟩ := Kd.R_slice HO138.out; subst eo41; obtain ⟨Ao42, co42, eo42⟩ := Kd.R_slice HO152.out; subst eo42) | (go_at_call 19; (with_reducible refine (neonwrightlaw04_same.calls k _ _ t135 _ _ y150 true _ ?side1 ?side2 ?side3 ?side4 A8.out).mono ?_); (case side1 => repeat (first | exact (Kd.R_reads' HO138.out).2.2 | (with_reducible refine Kd.C_alloc ?_ _) | (with_reducible refine Kd.C_drewN ?_ _) | (with_reducible refine Kd.C_drew ?_))); (case side2 => exact (Kd.R_reads' HO138.out).2.1); (case side3 => repeat (first | exact (Kd.R_reads' HO152.out).2.2 | (with_reducible refine Kd.C_alloc ?_ _) | (with_reducible refine Kd.C_drewN ?_ _) | (with_reducible refine Kd.C_drew ?_))); (case side4 => exact (Kd.R_reads' HO152.out).2.1); rintro e w' ⟨rfl, ⟨nd, rfl⟩⟩) | ((with_reducible refine gate_dst (N := 47) rfl ?_); (try (refine gate_guard (by rfl) ?_; dsimp only)); refine Kd.R_lit (Kd.int .i64) _ 3 ?hg (N := 47) ?hd (xs := ([0, 1, 3, 7, 6, 4] : List Int)) (inner := [.int .i64 0, .int .i64 1, .int .i64 3, .int .i64 7, .int .i64 6, .int .i64 4]) (ok := fun _ => True) (okp := fun _ => True) ?hr ?hp (fun _ hk => hk) trivial (Below.refl _ _) (Nat.le_refl _) (by simp) ?_; (case hd => rfl); (case hg => rfl); (case hr => first | (go_simp; done) | (go_simp; rfl)); (case hp => exact (Reps.one (show Kd.M (Kd.int .i64) _ _ _ 0 [.int .i64 0] from rfl) (Reps.one (show Kd.M (Kd.int .i64) _ _ _ 1 [.int .i64 1] from rfl) (Reps.one (show Kd.M (Kd.int .i64) _ _ _ 3 [.int .i64 3] from rfl) (Reps.one (show Kd.M (Kd.int .i64) _ _ _ 7 [.int .i64 7] from rfl) (Reps.one (show Kd.M (Kd.int .i64) _ _ _ 6 [.int .i64 6] from rfl) (Reps.one (show Kd.M (Kd.int .i64) _ _ _ 4 [.int .i64 4] from rfl) (Reps.none _ _)))))))); intro v155 w43 ho44 hb hg_ hnew_; clear hg_ hnew_; (first | rw [← Ny154.out] at ho44 | (simp only [Int.reduceToNat] at ho44; rw [← Ny154.out] at ho44)); have n0_ := Aside0.mk (Kd.R_elder' (by (with_reducible repeat (first | apply Kd.R_alloc | apply Kd.R_drewN | apply Kd.R_drew)); exact HO138.out) (Kd.R_base ho44) hb); have n1_ := Aside0.mk (Kd.R_elder' (by (with_reducible repeat (first | apply Kd.R_alloc | apply Kd.R_drewN | apply Kd.R_drew)); exact HO142.out) (Kd.R_base ho44) hb); have n2_ := Aside0.mk (Kd.R_elder' (by (with_reducible repeat (first | apply Kd.R_alloc | apply Kd.R_drewN | apply Kd.R_drew)); exact HO145.out) (Kd.R_base ho44) hb); have n3_ := Aside0.mk (Kd.R_elder' (by (with_reducible repeat (first | apply Kd.R_alloc | apply Kd.R_drewN | apply Kd.R_drew)); exact HO149.out) (Kd.R_base ho44) hb); have n4_ := Aside0.mk (Kd.R_elder' (by (with_reducible repeat (first | apply Kd.R_alloc | apply Kd.R_drewN | apply Kd.R_drew)); exact HO152.out) (Kd.R_base ho44) hb); have n5_ := Aside0.mk (Kd.R_lower (Kd.R_new' (Kd.R_new' (Kd.R_new' (Kd.R_new' (Kd.R_new' ho44 (Kd.R_lt (by (with_reducible repeat (first | apply Kd.R_alloc | apply Kd.R_drewN | apply Kd.R_drew)); exact HO138.out))) (Kd.R_lt (by (with_reducible repeat (first | apply Kd.R_alloc | apply Kd.R_drewN | apply Kd.R_drew)); exact HO142.out))) (Kd.R_lt (by (with_reducible repeat (first | apply Kd.R_alloc | apply Kd.R_drewN | apply Kd.R_drew)); exact HO145.out))) (Kd.R_lt (by (with_reducible repeat (first | apply Kd.R_alloc | apply Kd.R_drewN | apply Kd.R_drew)); exact HO149.out))) (Kd.R_lt (by (with_reducible repeat (first | apply Kd.R_alloc | apply Kd.R_drewN | apply Kd.R_drew)); exact HO152.out))) (below_size (by repeat (first | (with_reducible first | exact HB.out | apply below_alloc | apply pw_below_drewN | apply below_drew1) | exact HB.out)))); have n6_ := Aside0.mk (below_step (by repeat (first | (with_reducible first | exact HB.out | apply below_alloc | apply pw_below_drewN | apply below_drew1) | exact HB.out)) hb); clear HO138; clear HO142; clear HO145; clear HO149; clear HO152; clear HB; have HO138 := n0_; have HO142 := n1_; have HO145 := n2_; have HO149 := n3_; have HO152 := n4_; have HO156 := n5_; have HB := n6_; clear n0_ n1_ n2_ n3_ n4_ n5_ n6_; clear hb ho44; obtain ⟨Ao45, co45, eo45⟩ := Kd.R_slice HO142.out; subst eo45; obtain ⟨Ao46, co46, eo46⟩ := Kd.R_slice HO156.out; subst eo46) | (go_at_call 19; (with_reducible refine (neonwrightlaw04_same.calls k _ _ t139 _ _ y154 true _ ?side1 ?side2 ?side3 ?side4 A11.out).mono ?_); (case side1 => repeat (first | exact (Kd.R_reads' HO142.out).2.2 | (with_reducible refine Kd.C_alloc ?_ _) | (with_reducible refine Kd.C_drewN ?_ _) | (with_reducible refine Kd.C_drew ?_))); (case side2 => exact (Kd.R_reads' HO142.out).2.1); (case side3 => repeat (first | exact (Kd.R_reads' HO156.out).2.2 | (with_reducible refine Kd.C_alloc ?_ _) | (with_reducible refine Kd.C_drewN ?_ _) | (with_reducible refine Kd.C_drew ?_))); (case side4 => exact (Kd.R_reads' HO156.out).2.1); rintro e w' ⟨rfl, ⟨nd, rfl⟩⟩))
                go_ret
                exact ⟨by first | rfl | (simp [errW_none, errW_some] <;> rfl) | (simp [*, errW_none, errW_some] <;> rfl), by repeat (first | (with_reducible first | exact HB.out | apply below_alloc | apply pw_below_drewN | apply below_drew1) | exact HB.out)⟩
            · replace c12 := Bool.eq_false_iff.mpr c12
              subst c12
              have H1 : (some false) = some r := by rw [if_neg (show ¬ (false = true) by decide)] at H; exact H
              clear H
              have H := H1
              clear H1
              obtain rfl := Option.some.inj H
              go_enter Try.func20, Try.ntmps20
              go_wp2_with (first | ((with_reducible refine gate_callee (f := 23) rfl ?_); refine goesL_ (some 10) rfl rfl Try.func23 (by kernel_rfl) rfl #[.int .i64 3, .int .i64 5] rfl (by (try simp only [List.map_toArray, List.map_cons, List.map_nil]); first | done | rfl | (simp only [List.length_drop, List.length_take]; rfl)) ?_; (with_reducible refine (flash_Gray.calls 3 5 t133 t134 _ A1.out).mono ?_); rintro e w' ⟨rfl, ⟨nd, rfl⟩⟩; refine ⟨_, rfl, ?_⟩) | ((with_reducible refine gate_callee (f := 17) rfl ?_); refine goesL_ (some 14) rfl rfl Try.func17 (by kernel_rfl) rfl #[.int .i64 3] rfl (by (try simp only [List.map_toArray, List.map_cons, List.map_nil]); first | done | rfl | (simp only [List.length_drop, List.length_take]; rfl)) ?_; (with_reducible refine (flash_Longest.calls 3 t135 t136 _ A2.out).mono ?_); rintro e w47 ⟨v137, rfl, ho0, hb⟩; refine ⟨_, rfl, ?_⟩; have n0_ := Aside0.mk (Kd.R_lower ho0 (below_size (by repeat (first | (with_reducible first | exact HB.out | apply below_alloc | apply pw_below_drewN | apply below_drew1) | exact HB.out)))); have n1_ := Aside0.mk (below_step (by repeat (first | (with_reducible first | exact HB.out | apply below_alloc | apply pw_below_drewN | apply below_drew1) | exact HB.out)) hb); clear HB; have HO138 := n0_; have HB := n1_; clear n0_ n1_; (try clear hb); (try clear hb2); (try clear hk); (try clear hi); (try clear ho0)) | ((with_reducible refine gate_callee (f := 18) rfl ?_); refine goesL_ (some 18) rfl rfl Try.func18 (by kernel_rfl) rfl #[.int .i64 3] rfl (by (try simp only [List.map_toArray, List.map_cons, List.map_nil]); first | done | rfl | (simp only [List.length_drop, List.length_take]; rfl)) ?_; (with_reducible refine (flash_Coil.calls 3 t139 t140 _ A3.out).mono ?_); rintro e w48 ⟨v141, rfl, ho0, hb⟩; refine ⟨_, rfl, ?_⟩; have n0_ := Aside0.mk (Kd.R_elder' (by (with_reducible repeat (first | apply Kd.R_alloc | apply Kd.R_drewN | apply Kd.R_drew)); exact HO138.out) (Kd.R_base ho0) hb); have n1_ := Aside0.mk (Kd.R_lower (Kd.R_new' ho0 (Kd.R_lt (by (with_reducible repeat (first | apply Kd.R_alloc | apply Kd.R_drewN | apply Kd.R_drew)); exact HO138.out))) (below_size (by repeat (first | (with_reducible first | exact HB.out | apply below_alloc | apply pw_below_drewN | apply below_drew1) | exact HB.out)))); have n2_ := Aside0.mk (below_step (by repeat (first | (with_reducible first | exact HB.out | apply below_alloc | apply pw_below_drewN | apply below_drew1) | exact HB.out)) hb); clear HO138; clear HB; have HO138 := n0_; have HO142 := n1_; have HB := n2_; clear n0_ n1_ n2_; (try clear hb); (try clear hb2); (try clear hk); (try clear hi); (try clear ho0)) | ((with_reducible refine gate_dst (N := 22) rfl ?_); (try (refine gate_guard (by rfl) ?_; dsimp only)); refine Kd.R_lit (Kd.int .i64) _ 3 ?hg (N := 22) ?hd (xs := ([5, 4, 6] : List Int)) (inner := [.int .i64 5, .int .i64 4, .int .i64 6]) (ok := fun _ => True) (okp := fun _ => True) ?hr ?hp (fun _ hk => hk) trivial (Below.refl _ _) (Nat.le_refl _) (by simp) ?_; (case hd => rfl); (case hg => rfl); (case hr => first | (go_simp; done) | (go_simp; rfl)); (case hp => exact (Reps.one (show Kd.M (Kd.int .i64) _ _ _ 5 [.int .i64 5] from rfl) (Reps.one (show Kd.M (Kd.int .i64) _ _ _ 4 [.int .i64 4] from rfl) (Reps.one (show Kd.M (Kd.int .i64) _ _ _ 6 [.int .i64 6] from rfl) (Reps.none _ _))))); intro v144 w49 ho50 hb hg_ hnew_; clear hg_ hnew_; (first | rw [← Ny143.out] at ho50 | (simp only [Int.reduceToNat] at ho50; rw [← Ny143.out] at ho50)); have n0_ := Aside0.mk (Kd.R_elder' (by (with_reducible repeat (first | apply Kd.R_alloc | apply Kd.R_drewN | apply Kd.R_drew)); exact HO138.out) (Kd.R_base ho50) hb); have n1_ := Aside0.mk (Kd.R_elder' (by (with_reducible repeat (first | apply Kd.R_alloc | apply Kd.R_drewN | apply Kd.R_drew)); exact HO142.out) (Kd.R_base ho50) hb); have n2_ := Aside0.mk (Kd.R_lower (Kd.R_new' (Kd.R_new' ho50 (Kd.R_lt (by (with_reducible repeat (first | apply Kd.R_alloc | apply Kd.R_drewN | apply Kd.R_drew)); exact HO138.out))) (Kd.R_lt (by (with_reducible repeat (first | apply Kd.R_alloc | apply Kd.R_drewN | apply Kd.R_drew)); exact HO142.out))) (below_size (by repeat (first | (with_reducible first | exact HB.out | apply below_alloc | apply pw_below_drewN | apply below_drew1) | exact HB.out)))); have n3_ := Aside0.mk (below_step (by repeat (first | (with_reducible first | exact HB.out | apply below_alloc | apply pw_below_drewN | apply below_drew1) | exact HB.out)) hb); clear HO138; clear HO142; clear HB; have HO138 := n0_; have HO142 := n1_; have HO145 := n2_; have HB := n3_; clear n0_ n1_ n2_ n3_; clear hb ho50; obtain ⟨Ao51, co51, eo51⟩ := Kd.R_slice HO145.out; subst eo51) | ((with_reducible refine gate_callee (f := 33) rfl ?_); refine goesL_ (some 23) rfl rfl Try.func33 (by kernel_rfl) rfl #[.int .i64 3, .slice Ao51 y143.length co51] rfl (by (try simp only [List.map_toArray, List.map_cons, List.map_nil]); first | done | rfl | (simp only [List.length_drop, List.length_take]; rfl)) ?_; (with_reducible refine (flash_Normal.calls 3 _ _ y143 t146 t147 _ ?side1 ?side2 A4.out).mono ?_); (case side1 => repeat (first | exact (Kd.R_reads' HO145.out).2.2 | (with_reducible refine Kd.C_alloc ?_ _) | (with_reducible refine Kd.C_drewN ?_ _) | (with_reducible refine Kd.C_drew ?_))); (case side2 => exact (Kd.R_reads' HO145.out).2.1); rintro e w52 ⟨v148, rfl, ho0, hb⟩; refine ⟨_, rfl, ?_⟩; have n0_ := Aside0.mk (Kd.R_elder' (by (with_reducible repeat (first | apply Kd.R_alloc | apply Kd.R_drewN | apply Kd.R_drew)); exact HO138.out) (Kd.R_base ho0) hb); have n1_ := Aside0.mk (Kd.R_elder' (by (with_reducible repeat (first | apply Kd.R_alloc | apply Kd.R_drewN | apply Kd.R_drew)); exact HO142.out) (Kd.R_base ho0) hb); have n2_ := Aside0.mk (Kd.R_elder' (by (with_reducible repeat (first | apply Kd.R_alloc | apply Kd.R_drewN | apply Kd.R_drew)); exact HO145.out) (Kd.R_base ho0) hb); have n3_ := Aside0.mk (Kd.R_lower (Kd.R_new' (Kd.R_new' (Kd.R_new' ho0 (Kd.R_lt (by (with_reducible repeat (first | apply Kd.R_alloc | apply Kd.R_drewN | apply Kd.R_drew)); exact HO138.out))) (Kd.R_lt (by (with_reducible repeat (first | apply Kd.R_alloc | apply Kd.R_drewN | apply Kd.R_drew)); exact HO142.out))) (Kd.R_lt (by (with_reducible repeat (first | apply Kd.R_alloc | apply Kd.R_drewN | apply Kd.R_drew)); exact HO145.out))) (below_size (by repeat (first | (with_reducible first | exact HB.out | apply below_alloc | apply pw_below_drewN | apply below_drew1) | exact HB.out)))); have n4_ := Aside0.mk (below_step (by repeat (first | (with_reducible first | exact HB.out | apply below_alloc | apply pw_below_drewN | apply below_drew1) | exact HB.out)) hb); clear HO138; clear HO142; clear HO145; clear HB; have HO138 := n0_; have HO142 := n1_; have HO145 := n2_; have HO149 := n3_; have HB := n4_; clear n0_ n1_ n2_ n3_ n4_; (try clear hb); (try clear hb2); (try clear hk); (try clear hi); (try clear ho0)) | ((with_reducible refine gate_dst (N := 38) rfl ?_); (try (refine gate_guard (by rfl) ?_; dsimp only)); refine Kd.R_lit (Kd.int .i64) _ 3 ?hg (N := 38) ?hd (xs := ([0, 1, 3, 7, 6] : List Int)) (inner := [.int .i64 0, .int .i64 1, .int .i64 3, .int .i64 7, .int .i64 6]) (ok := fun _ => True) (okp := fun _ => True) ?hr ?hp (fun _ hk => hk) trivial (Below.refl _ _) (Nat.le_refl _) (by simp) ?_; (case hd => rfl); (case hg => rfl); (case hr => first | (go_simp; done) | (go_simp; rfl)); (case hp => exact (Reps.one (show Kd.M (Kd.int .i64) _ _ _ 0 [.int .i64 0] from rfl) (Reps.one (show Kd.M (Kd.int .i64) _ _ _ 1 [.int .i64 1] from rfl) (Reps.one (show Kd.M (Kd.int .i64) _ _ _ 3 [.int .i64 3] from rfl) (Reps.one (show Kd.M (Kd.int .i64) _ _ _ 7 [.int .i64 7] from rfl) (Reps.one (show Kd.M (Kd.int .i64) _ _ _ 6 [.int .i64 6] from rfl) (Reps.none _ _))))))); intro v151 w53 ho54 hb hg_ hnew_; clear hg_ hnew_; (first | rw [← Ny150.out] at ho54 | (simp only [Int.reduceToNat] at ho54; rw [← Ny150.out] at ho54)); have n0_ := Aside0.mk (Kd.R_elder' (by (with_reducible repeat (first | apply Kd.R_alloc | apply Kd.R_drewN | apply Kd.R_drew)); exact HO138.out) (Kd.R_base ho54) hb); have n1_ := Aside0.mk (Kd.R_elder' (by (with_reducible repeat (first | apply Kd.R_alloc | apply Kd.R_drewN | apply Kd.R_drew)); exact HO142.out) (Kd.R_base ho54) hb); have n2_ := Aside0.mk (Kd.R_elder' (by (with_reducible repeat (first | apply Kd.R_alloc | apply Kd.R_drewN | apply Kd.R_drew)); exact HO145.out) (Kd.R_base ho54) hb); have n3_ := Aside0.mk (Kd.R_elder' (by (with_reducible repeat (first | apply Kd.R_alloc | apply Kd.R_drewN | apply Kd.R_drew)); exact HO149.out) (Kd.R_base ho54) hb); have n4_ := Aside0.mk (Kd.R_lower (Kd.R_new' (Kd.R_new' (Kd.R_new' (Kd.R_new' ho54 (Kd.R_lt (by (with_reducible repeat (first | apply Kd.R_alloc | apply Kd.R_drewN | apply Kd.R_drew)); exact HO138.out))) (Kd.R_lt (by (with_reducible repeat (first | apply Kd.R_alloc | apply Kd.R_drewN | apply Kd.R_drew)); exact HO142.out))) (Kd.R_lt (by (with_reducible repeat (first | apply Kd.R_alloc | apply Kd.R_drewN | apply Kd.R_drew)); exact HO145.out))) (Kd.R_lt (by (with_reducible repeat (first | apply Kd.R_alloc | apply Kd.R_drewN | apply Kd.R_drew)); exact HO149.out))) (below_size (by repeat (first | (with_reducible first | exact HB.out | apply below_alloc | apply pw_below_drewN | apply below_drew1) | exact HB.out)))); have n5_ := Aside0.mk (below_step (by repeat (first | (with_reducible first | exact HB.out | apply below_alloc | apply pw_below_drewN | apply below_drew1) | exact HB.out)) hb); clear HO138; clear HO142; clear HO145; clear HO149; clear HB; have HO138 := n0_; have HO142 := n1_; have HO145 := n2_; have HO149 := n3_; have HO152 := n4_; have HB := n5_; clear n0_ n1_ n2_ n3_ n4_ n5_; clear hb ho54; obtain ⟨Ao55, co55, eo55⟩ := Kd.R_slice HO138.out; subst eo55; obtain ⟨Ao56, co56, eo56⟩ := Kd.R_slice HO152.out; subst eo56) | (go_at_call 19; (with_reducible refine (neonwrightlaw04_same.calls k _ _ t135 _ _ y150 true _ ?side1 ?side2 ?side3 ?side4 A8.out).mono ?_); (case side1 => repeat (first | exact (Kd.R_reads' HO138.out).2.2 | (with_reducible refine Kd.C_alloc ?_ _) | (with_reducible refine Kd.C_drewN ?_ _) | (with_reducible refine Kd.C_drew ?_))); (case side2 => exact (Kd.R_reads' HO138.out).2.1); (case side3 => repeat (first | exact (Kd.R_reads' HO152.out).2.2 | (with_reducible refine Kd.C_alloc ?_ _) | (with_reducible refine Kd.C_drewN ?_ _) | (with_reducible refine Kd.C_drew ?_))); (case side4 => exact (Kd.R_reads' HO152.out).2.1); rintro e w' ⟨rfl, ⟨nd, rfl⟩⟩) | ((with_reducible refine gate_dst (N := 47) rfl ?_); (try (refine gate_guard (by rfl) ?_; dsimp only)); refine Kd.R_lit (Kd.int .i64) _ 3 ?hg (N := 47) ?hd (xs := ([0, 1, 3, 7, 6, 4] : List Int)) (inner := [.int .i64 0, .int .i64 1, .int .i64 3, .int .i64 7, .int .i64 6, .int .i64 4]) (ok := fun _ => True) (okp := fun _ => True) ?hr ?hp (fun _ hk => hk) trivial (Below.refl _ _) (Nat.le_refl _) (by simp) ?_; (case hd => rfl); (case hg => rfl); (case hr => first | (go_simp; done) | (go_simp; rfl)); (case hp => exact (Reps.one (show Kd.M (Kd.int .i64) _ _ _ 0 [.int .i64 0] from rfl) (Reps.one (show Kd.M (Kd.int .i64) _ _ _ 1 [.int .i64 1] from rfl) (Reps.one (show Kd.M (Kd.int .i64) _ _ _ 3 [.int .i64 3] from rfl) (Reps.one (show Kd.M (Kd.int .i64) _ _ _ 7 [.int .i64 7] from rfl) (Reps.one (show Kd.M (Kd.int .i64) _ _ _ 6 [.int .i64 6] from rfl) (Reps.one (show Kd.M (Kd.int .i64) _ _ _ 4 [.int .i64 4] from rfl) (Reps.none _ _)))))))); intro v155 w57 ho58 hb hg_ hnew_; clear hg_ hnew_; (first | rw [← Ny154.out] at ho58 | (simp only [Int.reduceToNat] at ho58; rw [← Ny154.out] at ho58)); have n0_ := Aside0.mk (Kd.R_elder' (by (with_reducible repeat (first | apply Kd.R_alloc | apply Kd.R_drewN | apply Kd.R_drew)); exact HO138.out) (Kd.R_base ho58) hb); have n1_ := Aside0.mk (Kd.R_elder' (by (with_reducible repeat (first | apply Kd.R_alloc | apply Kd.R_drewN | apply Kd.R_drew)); exact HO142.out) (Kd.R_base ho58) hb); have n2_ := Aside0.mk (Kd.R_elder' (by (with_reducible repeat (first | apply Kd.R_alloc | apply Kd.R_drewN | apply Kd.R_drew)); exact HO145.out) (Kd.R_base ho58) hb); have n3_ := Aside0.mk (Kd.R_elder' (by (with_reducible repeat (first | apply Kd.R_alloc | apply Kd.R_drewN | apply Kd.R_drew)); exact HO149.out) (Kd.R_base ho58) hb); have n4_ := Aside0.mk (Kd.R_elder' (by (with_reducible repeat (first | apply Kd.R_alloc | apply Kd.R_drewN | apply Kd.R_drew)); exact HO152.out) (Kd.R_base ho58) hb); have n5_ := Aside0.mk (Kd.R_lower (Kd.R_new' (Kd.R_new' (Kd.R_new' (Kd.R_new' (Kd.R_new' ho58 (Kd.R_lt (by (with_reducible repeat (first | apply Kd.R_alloc | apply Kd.R_drewN | apply Kd.R_drew)); exact HO138.out))) (Kd.R_lt (by (with_reducible repeat (first | apply Kd.R_alloc | apply Kd.R_drewN | apply Kd.R_drew)); exact HO142.out))) (Kd.R_lt (by (with_reducible repeat (first | apply Kd.R_alloc | apply Kd.R_drewN | apply Kd.R_drew)); exact HO145.out))) (Kd.R_lt (by (with_reducible repeat (first | apply Kd.R_alloc | apply Kd.R_drewN | apply Kd.R_drew)); exact HO149.out))) (Kd.R_lt (by (with_reducible repeat (first | apply Kd.R_alloc | apply Kd.R_drewN | apply Kd.R_drew)); exact HO152.out))) (below_size (by repeat (first | (with_reducible first | exact HB.out | apply below_alloc | apply pw_below_drewN | apply below_drew1) | exact HB.out)))); have n6_ := Aside0.mk (below_step (by repeat (first | (with_reducible first | exact HB.out | apply below_alloc | apply pw_below_drewN | apply below_drew1) | exact HB.out)) hb); clear HO138; clear HO142; clear HO145; clear HO149; clear HO152; clear HB; have HO138 := n0_; have HO142 := n1_; have HO145 := n2_; have HO149 := n3_; have HO152 := n4_; have HO156 := n5_; have HB := n6_; clear n0_ n1_ n2_ n3_ n4_ n5_ n6_; clear hb ho58; obtain ⟨Ao59, co59, eo59⟩ := Kd.R_slice HO142.out; subst eo59; obtain ⟨Ao60, co60, eo60⟩ := Kd.R_slice HO156.out; subst eo60) | (go_at_call 19; (with_reducible refine (neonwrightlaw04_same.calls k _ _ t139 _ _ y154 false _ ?side1 ?side2 ?side3 ?side4 A11.out).mono ?_); (case side1 => repeat (first | exact (Kd.R_reads' HO142.out).2.2 | (with_reducible refine Kd.C_alloc ?_ _) | (with_reducible refine Kd.C_drewN ?_ _) | (with_reducible refine Kd.C_drew ?_))); (case side2 => exact (Kd.R_reads' HO142.out).2.1); (case side3 => repeat (first | exact (Kd.R_reads' HO156.out).2.2 | (with_reducible refine Kd.C_alloc ?_ _) | (with_reducible refine Kd.C_drewN ?_ _) | (with_reducible refine Kd.C_drew ?_))); (case side4 => exact (Kd.R_reads' HO156.out).2.1); rintro e w' ⟨rfl, ⟨nd, rfl⟩⟩))
              go_ret
              exact ⟨by first | rfl | (simp [errW_none, errW_some] <;> rfl) | (simp [*, errW_none, errW_some] <;> rfl), by repeat (first | (with_reducible first | exact HB.out | apply below_alloc | apply pw_below_drewN | apply below_drew1) | exact HB.out)⟩
          · rw [if_neg c10] at H
            have c10b0 : (t140 == 0) = false := beq_eq_false_iff_ne.mpr c10
            have c10b1 : (t140 != 0) = true := bne_iff_ne.mpr c10
            obtain rfl := Option.some.inj H
            go_enter Try.func20, Try.ntmps20
            go_wp2_with (first | ((with_reducible refine gate_callee (f := 23) rfl ?_); refine goesL_ (some 10) rfl rfl Try.func23 (by kernel_rfl) rfl #[.int .i64 3, .int .i64 5] rfl (by (try simp only [List.map_toArray, List.map_cons, List.map_nil]); first | done | rfl | (simp only [List.length_drop, List.length_take]; rfl)) ?_; (with_reducible refine (flash_Gray.calls 3 5 t133 t134 _ A1.out).mono ?_); rintro e w' ⟨rfl, ⟨nd, rfl⟩⟩; refine ⟨_, rfl, ?_⟩) | ((with_reducible refine gate_callee (f := 17) rfl ?_); refine goesL_ (some 14) rfl rfl Try.func17 (by kernel_rfl) rfl #[.int .i64 3] rfl (by (try simp only [List.map_toArray, List.map_cons, List.map_nil]); first | done | rfl | (simp only [List.length_drop, List.length_take]; rfl)) ?_; (with_reducible refine (flash_Longest.calls 3 t135 t136 _ A2.out).mono ?_); rintro e w61 ⟨v137, rfl, ho0, hb⟩; refine ⟨_, rfl, ?_⟩; have n0_ := Aside0.mk (Kd.R_lower ho0 (below_size (by repeat (first | (with_reducible first | exact HB.out | apply below_alloc | apply pw_below_drewN | apply below_drew1) | exact HB.out)))); have n1_ := Aside0.mk (below_step (by repeat (first | (with_reducible first | exact HB.out | apply below_alloc | apply pw_below_drewN | apply below_drew1) | exact HB.out)) hb); clear HB; have HO138 := n0_; have HB := n1_; clear n0_ n1_; (try clear hb); (try clear hb2); (try clear hk); (try clear hi); (try clear ho0)) | ((with_reducible refine gate_callee (f := 18) rfl ?_); refine goesL_ (some 18) rfl rfl Try.func18 (by kernel_rfl) rfl #[.int .i64 3] rfl (by (try simp only [List.map_toArray, List.map_cons, List.map_nil]); first | done | rfl | (simp only [List.length_drop, List.length_take]; rfl)) ?_; (with_reducible refine (flash_Coil.calls 3 t139 t140 _ A3.out).mono ?_); rintro e w62 ⟨v141, rfl, ho0, hb⟩; refine ⟨_, rfl, ?_⟩; have n0_ := Aside0.mk (Kd.R_elder' (by (with_reducible repeat (first | apply Kd.R_alloc | apply Kd.R_drewN | apply Kd.R_drew)); exact HO138.out) (Kd.R_base ho0) hb); have n1_ := Aside0.mk (Kd.R_lower (Kd.R_new' ho0 (Kd.R_lt (by (with_reducible repeat (first | apply Kd.R_alloc | apply Kd.R_drewN | apply Kd.R_drew)); exact HO138.out))) (below_size (by repeat (first | (with_reducible first | exact HB.out | apply below_alloc | apply pw_below_drewN | apply below_drew1) | exact HB.out)))); have n2_ := Aside0.mk (below_step (by repeat (first | (with_reducible first | exact HB.out | apply below_alloc | apply pw_below_drewN | apply below_drew1) | exact HB.out)) hb); clear HO138; clear HB; have HO138 := n0_; have HO142 := n1_; have HB := n2_; clear n0_ n1_ n2_; (try clear hb); (try clear hb2); (try clear hk); (try clear hi); (try clear ho0)) | ((with_reducible refine gate_dst (N := 22) rfl ?_); (try (refine gate_guard (by rfl) ?_; dsimp only)); refine Kd.R_lit (Kd.int .i64) _ 3 ?hg (N := 22) ?hd (xs := ([5, 4, 6] : List Int)) (inner := [.int .i64 5, .int .i64 4, .int .i64 6]) (ok := fun _ => True) (okp := fun _ => True) ?hr ?hp (fun _ hk => hk) trivial (Below.refl _ _) (Nat.le_refl _) (by simp) ?_; (case hd => rfl); (case hg => rfl); (case hr => first | (go_simp; done) | (go_simp; rfl)); (case hp => exact (Reps.one (show Kd.M (Kd.int .i64) _ _ _ 5 [.int .i64 5] from rfl) (Reps.one (show Kd.M (Kd.int .i64) _ _ _ 4 [.int .i64 4] from rfl) (Reps.one (show Kd.M (Kd.int .i64) _ _ _ 6 [.int .i64 6] from rfl) (Reps.none _ _))))); intro v144 w63 ho64 hb hg_ hnew_; clear hg_ hnew_; (first | rw [← Ny143.out] at ho64 | (simp only [Int.reduceToNat] at ho64; rw [← Ny143.out] at ho64)); have n0_ := Aside0.mk (Kd.R_elder' (by (with_reducible repeat (first | apply Kd.R_alloc | apply Kd.R_drewN | apply Kd.R_drew)); exact HO138.out) (Kd.R_base ho64) hb); have n1_ := Aside0.mk (Kd.R_elder' (by (with_reducible repeat (first | apply Kd.R_alloc | apply Kd.R_drewN | apply Kd.R_drew)); exact HO142.out) (Kd.R_base ho64) hb); have n2_ := Aside0.mk (Kd.R_lower (Kd.R_new' (Kd.R_new' ho64 (Kd.R_lt (by (with_reducible repeat (first | apply Kd.R_alloc | apply Kd.R_drewN | apply Kd.R_drew)); exact HO138.out))) (Kd.R_lt (by (with_reducible repeat (first | apply Kd.R_alloc | apply Kd.R_drewN | apply Kd.R_drew)); exact HO142.out))) (below_size (by repeat (first | (with_reducible first | exact HB.out | apply below_alloc | apply pw_below_drewN | apply below_drew1) | exact HB.out)))); have n3_ := Aside0.mk (below_step (by repeat (first | (with_reducible first | exact HB.out | apply below_alloc | apply pw_below_drewN | apply below_drew1) | exact HB.out)) hb); clear HO138; clear HO142; clear HB; have HO138 := n0_; have HO142 := n1_; have HO145 := n2_; have HB := n3_; clear n0_ n1_ n2_ n3_; clear hb ho64; obtain ⟨Ao65, co65, eo65⟩ := Kd.R_slice HO145.out; subst eo65) | ((with_reducible refine gate_callee (f := 33) rfl ?_); refine goesL_ (some 23) rfl rfl Try.func33 (by kernel_rfl) rfl #[.int .i64 3, .slice Ao65 y143.length co65] rfl (by (try simp only [List.map_toArray, List.map_cons, List.map_nil]); first | done | rfl | (simp only [List.length_drop, List.length_take]; rfl)) ?_; (with_reducible refine (flash_Normal.calls 3 _ _ y143 t146 t147 _ ?side1 ?side2 A4.out).mono ?_); (case side1 => repeat (first | exact (Kd.R_reads' HO145.out).2.2 | (with_reducible refine Kd.C_alloc ?_ _) | (with_reducible refine Kd.C_drewN ?_ _) | (with_reducible refine Kd.C_drew ?_))); (case side2 => exact (Kd.R_reads' HO145.out).2.1); rintro e w66 ⟨v148, rfl, ho0, hb⟩; refine ⟨_, rfl, ?_⟩; have n0_ := Aside0.mk (Kd.R_elder' (by (with_reducible repeat (first | apply Kd.R_alloc | apply Kd.R_drewN | apply Kd.R_drew)); exact HO138.out) (Kd.R_base ho0) hb); have n1_ := Aside0.mk (Kd.R_elder' (by (with_reducible repeat (first | apply Kd.R_alloc | apply Kd.R_drewN | apply Kd.R_drew)); exact HO142.out) (Kd.R_base ho0) hb); have n2_ := Aside0.mk (Kd.R_elder' (by (with_reducible repeat (first | apply Kd.R_alloc | apply Kd.R_drewN | apply Kd.R_drew)); exact HO145.out) (Kd.R_base ho0) hb); have n3_ := Aside0.mk (Kd.R_lower (Kd.R_new' (Kd.R_new' (Kd.R_new' ho0 (Kd.R_lt (by (with_reducible repeat (first | apply Kd.R_alloc | apply Kd.R_drewN | apply Kd.R_drew)); exact HO138.out))) (Kd.R_lt (by (with_reducible repeat (first | apply Kd.R_alloc | apply Kd.R_drewN | apply Kd.R_drew)); exact HO142.out))) (Kd.R_lt (by (with_reducible repeat (first | apply Kd.R_alloc | apply Kd.R_drewN | apply Kd.R_drew)); exact HO145.out))) (below_size (by repeat (first | (with_reducible first | exact HB.out | apply below_alloc | apply pw_below_drewN | apply below_drew1) | exact HB.out)))); have n4_ := Aside0.mk (below_step (by repeat (first | (with_reducible first | exact HB.out | apply below_alloc | apply pw_below_drewN | apply below_drew1) | exact HB.out)) hb); clear HO138; clear HO142; clear HO145; clear HB; have HO138 := n0_; have HO142 := n1_; have HO145 := n2_; have HO149 := n3_; have HB := n4_; clear n0_ n1_ n2_ n3_ n4_; (try clear hb); (try clear hb2); (try clear hk); (try clear hi); (try clear ho0)) | ((with_reducible refine gate_dst (N := 38) rfl ?_); (try (refine gate_guard (by rfl) ?_; dsimp only)); refine Kd.R_lit (Kd.int .i64) _ 3 ?hg (N := 38) ?hd (xs := ([0, 1, 3, 7, 6] : List Int)) (inner := [.int .i64 0, .int .i64 1, .int .i64 3, .int .i64 7, .int .i64 6]) (ok := fun _ => True) (okp := fun _ => True) ?hr ?hp (fun _ hk => hk) trivial (Below.refl _ _) (Nat.le_refl _) (by simp) ?_; (case hd => rfl); (case hg => rfl); (case hr => first | (go_simp; done) | (go_simp; rfl)); (case hp => exact (Reps.one (show Kd.M (Kd.int .i64) _ _ _ 0 [.int .i64 0] from rfl) (Reps.one (show Kd.M (Kd.int .i64) _ _ _ 1 [.int .i64 1] from rfl) (Reps.one (show Kd.M (Kd.int .i64) _ _ _ 3 [.int .i64 3] from rfl) (Reps.one (show Kd.M (Kd.int .i64) _ _ _ 7 [.int .i64 7] from rfl) (Reps.one (show Kd.M (Kd.int .i64) _ _ _ 6 [.int .i64 6] from rfl) (Reps.none _ _))))))); intro v151 w67 ho68 hb hg_ hnew_; clear hg_ hnew_; (first | rw [← Ny150.out] at ho68 | (simp only [Int.reduceToNat] at ho68; rw [← Ny150.out] at ho68)); have n0_ := Aside0.mk (Kd.R_elder' (by (with_reducible repeat (first | apply Kd.R_alloc | apply Kd.R_drewN | apply Kd.R_drew)); exact HO138.out) (Kd.R_base ho68) hb); have n1_ := Aside0.mk (Kd.R_elder' (by (with_reducible repeat (first | apply Kd.R_alloc | apply Kd.R_drewN | apply Kd.R_drew)); exact HO142.out) (Kd.R_base ho68) hb); have n2_ := Aside0.mk (Kd.R_elder' (by (with_reducible repeat (first | apply Kd.R_alloc | apply Kd.R_drewN | apply Kd.R_drew)); exact HO145.out) (Kd.R_base ho68) hb); have n3_ := Aside0.mk (Kd.R_elder' (by (with_reducible repeat (first | apply Kd.R_alloc | apply Kd.R_drewN | apply Kd.R_drew)); exact HO149.out) (Kd.R_base ho68) hb); have n4_ := Aside0.mk (Kd.R_lower (Kd.R_new' (Kd.R_new' (Kd.R_new' (Kd.R_new' ho68 (Kd.R_lt (by (with_reducible repeat (first | apply Kd.R_alloc | apply Kd.R_drewN | apply Kd.R_drew)); exact HO138.out))) (Kd.R_lt (by (with_reducible repeat (first | apply Kd.R_alloc | apply Kd.R_drewN | apply Kd.R_drew)); exact HO142.out))) (Kd.R_lt (by (with_reducible repeat (first | apply Kd.R_alloc | apply Kd.R_drewN | apply Kd.R_drew)); exact HO145.out))) (Kd.R_lt (by (with_reducible repeat (first | apply Kd.R_alloc | apply Kd.R_drewN | apply Kd.R_drew)); exact HO149.out))) (below_size (by repeat (first | (with_reducible first | exact HB.out | apply below_alloc | apply pw_below_drewN | apply below_drew1) | exact HB.out)))); have n5_ := Aside0.mk (below_step (by repeat (first | (with_reducible first | exact HB.out | apply below_alloc | apply pw_below_drewN | apply below_drew1) | exact HB.out)) hb); clear HO138; clear HO142; clear HO145; clear HO149; clear HB; have HO138 := n0_; have HO142 := n1_; have HO145 := n2_; have HO149 := n3_; have HO152 := n4_; have HB := n5_; clear n0_ n1_ n2_ n3_ n4_ n5_; clear hb ho68; obtain ⟨Ao69, co69, eo69⟩ := Kd.R_slice HO138.out; subst eo69; obtain ⟨Ao70, co70, eo70⟩ := Kd.R_slice HO152.out; subst eo70) | (go_at_call 19; (with_reducible refine (neonwrightlaw04_same.calls k _ _ t135 _ _ y150 true _ ?side1 ?side2 ?side3 ?side4 A8.out).mono ?_); (case side1 => repeat (first | exact (Kd.R_reads' HO138.out).2.2 | (with_reducible refine Kd.C_alloc ?_ _) | (with_reducible refine Kd.C_drewN ?_ _) | (with_reducible refine Kd.C_drew ?_))); (case side2 => exact (Kd.R_reads' HO138.out).2.1); (case side3 => repeat (first | exact (Kd.R_reads' HO152.out).2.2 | (with_reducible refine Kd.C_alloc ?_ _) | (with_reducible refine Kd.C_drewN ?_ _) | (with_reducible refine Kd.C_drew ?_))); (case side4 => exact (Kd.R_reads' HO152.out).2.1); rintro e w' ⟨rfl, ⟨nd, rfl⟩⟩))
            go_ret
            exact ⟨by first | rfl | (simp [errW_none, errW_some] <;> rfl) | (simp [*, errW_none, errW_some] <;> rfl), by repeat (first | (with_reducible first | exact HB.out | apply below_alloc | apply pw_below_drewN | apply below_drew1) | exact HB.out)⟩
        · replace c9 := Bool.eq_false_iff.mpr c9
          subst c9
          have H1 : (some false) = some r := by rw [if_neg (show ¬ (false = true) by decide)] at H; exact H
          clear H
          have H := H1
          clear H1
          obtain rfl := Option.some.inj H
          go_enter Try.func20, Try.ntmps20
          go_wp2_with (first | ((with_reducible refine gate_callee (f := 23) rfl ?_); refine goesL_ (some 10) rfl rfl Try.func23 (by kernel_rfl) rfl #[.int .i64 3, .int .i64 5] rfl (by (try simp only [List.map_toArray, List.map_cons, List.map_nil]); first | done | rfl | (simp only [List.length_drop, List.length_take]; rfl)) ?_; (with_reducible refine (flash_Gray.calls 3 5 t133 t134 _ A1.out).mono ?_); rintro e w' ⟨rfl, ⟨nd, rfl⟩⟩; refine ⟨_, rfl, ?_⟩) | ((with_reducible refine gate_callee (f := 17) rfl ?_); refine goesL_ (some 14) rfl rfl Try.func17 (by kernel_rfl) rfl #[.int .i64 3] rfl (by (try simp only [List.map_toArray, List.map_cons, List.map_nil]); first | done | rfl | (simp only [List.length_drop, List.length_take]; rfl)) ?_; (with_reducible refine (flash_Longest.calls 3 t135 t136 _ A2.out).mono ?_); rintro e w71 ⟨v137, rfl, ho0, hb⟩; refine ⟨_, rfl, ?_⟩; have n0_ := Aside0.mk (Kd.R_lower ho0 (below_size (by repeat (first | (with_reducible first | exact HB.out | apply below_alloc | apply pw_below_drewN | apply below_drew1) | exact HB.out)))); have n1_ := Aside0.mk (below_step (by repeat (first | (with_reducible first | exact HB.out | apply below_alloc | apply pw_below_drewN | apply below_drew1) | exact HB.out)) hb); clear HB; have HO138 := n0_; have HB := n1_; clear n0_ n1_; (try clear hb); (try clear hb2); (try clear hk); (try clear hi); (try clear ho0)) | ((with_reducible refine gate_callee (f := 18) rfl ?_); refine goesL_ (some 18) rfl rfl Try.func18 (by kernel_rfl) rfl #[.int .i64 3] rfl (by (try simp only [List.map_toArray, List.map_cons, List.map_nil]); first | done | rfl | (simp only [List.length_drop, List.length_take]; rfl)) ?_; (with_reducible refine (flash_Coil.calls 3 t139 t140 _ A3.out).mono ?_); rintro e w72 ⟨v141, rfl, ho0, hb⟩; refine ⟨_, rfl, ?_⟩; have n0_ := Aside0.mk (Kd.R_elder' (by (with_reducible repeat (first | apply Kd.R_alloc | apply Kd.R_drewN | apply Kd.R_drew)); exact HO138.out) (Kd.R_base ho0) hb); have n1_ := Aside0.mk (Kd.R_lower (Kd.R_new' ho0 (Kd.R_lt (by (with_reducible repeat (first | apply Kd.R_alloc | apply Kd.R_drewN | apply Kd.R_drew)); exact HO138.out))) (below_size (by repeat (first | (with_reducible first | exact HB.out | apply below_alloc | apply pw_below_drewN | apply below_drew1) | exact HB.out)))); have n2_ := Aside0.mk (below_step (by repeat (first | (with_reducible first | exact HB.out | apply below_alloc | apply pw_below_drewN | apply below_drew1) | exact HB.out)) hb); clear HO138; clear HB; have HO138 := n0_; have HO142 := n1_; have HB := n2_; clear n0_ n1_ n2_; (try clear hb); (try clear hb2); (try clear hk); (try clear hi); (try clear ho0)) | ((with_reducible refine gate_dst (N := 22) rfl ?_); (try (refine gate_guard (by rfl) ?_; dsimp only)); refine Kd.R_lit (Kd.int .i64) _ 3 ?hg (N := 22) ?hd (xs := ([5, 4, 6] : List Int)) (inner := [.int .i64 5, .int .i64 4, .int .i64 6]) (ok := fun _ => True) (okp := fun _ => True) ?hr ?hp (fun _ hk => hk) trivial (Below.refl _ _) (Nat.le_refl _) (by simp) ?_; (case hd => rfl); (case hg => rfl); (case hr => first | (go_simp; done) | (go_simp; rfl)); (case hp => exact (Reps.one (show Kd.M (Kd.int .i64) _ _ _ 5 [.int .i64 5] from rfl) (Reps.one (show Kd.M (Kd.int .i64) _ _ _ 4 [.int .i64 4] from rfl) (Reps.one (show Kd.M (Kd.int .i64) _ _ _ 6 [.int .i64 6] from rfl) (Reps.none _ _))))); intro v144 w73 ho74 hb hg_ hnew_; clear hg_ hnew_; (first | rw [← Ny143.out] at ho74 | (simp only [Int.reduceToNat] at ho74; rw [← Ny143.out] at ho74)); have n0_ := Aside0.mk (Kd.R_elder' (by (with_reducible repeat (first | apply Kd.R_alloc | apply Kd.R_drewN | apply Kd.R_drew)); exact HO138.out) (Kd.R_base ho74) hb); have n1_ := Aside0.mk (Kd.R_elder' (by (with_reducible repeat (first | apply Kd.R_alloc | apply Kd.R_drewN | apply Kd.R_drew)); exact HO142.out) (Kd.R_base ho74) hb); have n2_ := Aside0.mk (Kd.R_lower (Kd.R_new' (Kd.R_new' ho74 (Kd.R_lt (by (with_reducible repeat (first | apply Kd.R_alloc | apply Kd.R_drewN | apply Kd.R_drew)); exact HO138.out))) (Kd.R_lt (by (with_reducible repeat (first | apply Kd.R_alloc | apply Kd.R_drewN | apply Kd.R_drew)); exact HO142.out))) (below_size (by repeat (first | (with_reducible first | exact HB.out | apply below_alloc | apply pw_below_drewN | apply below_drew1) | exact HB.out)))); have n3_ := Aside0.mk (below_step (by repeat (first | (with_reducible first | exact HB.out | apply below_alloc | apply pw_below_drewN | apply below_drew1) | exact HB.out)) hb); clear HO138; clear HO142; clear HB; have HO138 := n0_; have HO142 := n1_; have HO145 := n2_; have HB := n3_; clear n0_ n1_ n2_ n3_; clear hb ho74; obtain ⟨Ao75, co75, eo75⟩ := Kd.R_slice HO145.out; subst eo75) | ((with_reducible refine gate_callee (f := 33) rfl ?_); refine goesL_ (some 23) rfl rfl Try.func33 (by kernel_rfl) rfl #[.int .i64 3, .slice Ao75 y143.length co75] rfl (by (try simp only [List.map_toArray, List.map_cons, List.map_nil]); first | done | rfl | (simp only [List.length_drop, List.length_take]; rfl)) ?_; (with_reducible refine (flash_Normal.calls 3 _ _ y143 t146 t147 _ ?side1 ?side2 A4.out).mono ?_); (case side1 => repeat (first | exact (Kd.R_reads' HO145.out).2.2 | (with_reducible refine Kd.C_alloc ?_ _) | (with_reducible refine Kd.C_drewN ?_ _) | (with_reducible refine Kd.C_drew ?_))); (case side2 => exact (Kd.R_reads' HO145.out).2.1); rintro e w76 ⟨v148, rfl, ho0, hb⟩; refine ⟨_, rfl, ?_⟩; have n0_ := Aside0.mk (Kd.R_elder' (by (with_reducible repeat (first | apply Kd.R_alloc | apply Kd.R_drewN | apply Kd.R_drew)); exact HO138.out) (Kd.R_base ho0) hb); have n1_ := Aside0.mk (Kd.R_elder' (by (with_reducible repeat (first | apply Kd.R_alloc | apply Kd.R_drewN | apply Kd.R_drew)); exact HO142.out) (Kd.R_base ho0) hb); have n2_ := Aside0.mk (Kd.R_elder' (by (with_reducible repeat (first | apply Kd.R_alloc | apply Kd.R_drewN | apply Kd.R_drew)); exact HO145.out) (Kd.R_base ho0) hb); have n3_ := Aside0.mk (Kd.R_lower (Kd.R_new' (Kd.R_new' (Kd.R_new' ho0 (Kd.R_lt (by (with_reducible repeat (first | apply Kd.R_alloc | apply Kd.R_drewN | apply Kd.R_drew)); exact HO138.out))) (Kd.R_lt (by (with_reducible repeat (first | apply Kd.R_alloc | apply Kd.R_drewN | apply Kd.R_drew)); exact HO142.out))) (Kd.R_lt (by (with_reducible repeat (first | apply Kd.R_alloc | apply Kd.R_drewN | apply Kd.R_drew)); exact HO145.out))) (below_size (by repeat (first | (with_reducible first | exact HB.out | apply below_alloc | apply pw_below_drewN | apply below_drew1) | exact HB.out)))); have n4_ := Aside0.mk (below_step (by repeat (first | (with_reducible first | exact HB.out | apply below_alloc | apply pw_below_drewN | apply below_drew1) | exact HB.out)) hb); clear HO138; clear HO142; clear HO145; clear HB; have HO138 := n0_; have HO142 := n1_; have HO145 := n2_; have HO149 := n3_; have HB := n4_; clear n0_ n1_ n2_ n3_ n4_; (try clear hb); (try clear hb2); (try clear hk); (try clear hi); (try clear ho0)) | ((with_reducible refine gate_dst (N := 38) rfl ?_); (try (refine gate_guard (by rfl) ?_; dsimp only)); refine Kd.R_lit (Kd.int .i64) _ 3 ?hg (N := 38) ?hd (xs := ([0, 1, 3, 7, 6] : List Int)) (inner := [.int .i64 0, .int .i64 1, .int .i64 3, .int .i64 7, .int .i64 6]) (ok := fun _ => True) (okp := fun _ => True) ?hr ?hp (fun _ hk => hk) trivial (Below.refl _ _) (Nat.le_refl _) (by simp) ?_; (case hd => rfl); (case hg => rfl); (case hr => first | (go_simp; done) | (go_simp; rfl)); (case hp => exact (Reps.one (show Kd.M (Kd.int .i64) _ _ _ 0 [.int .i64 0] from rfl) (Reps.one (show Kd.M (Kd.int .i64) _ _ _ 1 [.int .i64 1] from rfl) (Reps.one (show Kd.M (Kd.int .i64) _ _ _ 3 [.int .i64 3] from rfl) (Reps.one (show Kd.M (Kd.int .i64) _ _ _ 7 [.int .i64 7] from rfl) (Reps.one (show Kd.M (Kd.int .i64) _ _ _ 6 [.int .i64 6] from rfl) (Reps.none _ _))))))); intro v151 w77 ho78 hb hg_ hnew_; clear hg_ hnew_; (first | rw [← Ny150.out] at ho78 | (simp only [Int.reduceToNat] at ho78; rw [← Ny150.out] at ho78)); have n0_ := Aside0.mk (Kd.R_elder' (by (with_reducible repeat (first | apply Kd.R_alloc | apply Kd.R_drewN | apply Kd.R_drew)); exact HO138.out) (Kd.R_base ho78) hb); have n1_ := Aside0.mk (Kd.R_elder' (by (with_reducible repeat (first | apply Kd.R_alloc | apply Kd.R_drewN | apply Kd.R_drew)); exact HO142.out) (Kd.R_base ho78) hb); have n2_ := Aside0.mk (Kd.R_elder' (by (with_reducible repeat (first | apply Kd.R_alloc | apply Kd.R_drewN | apply Kd.R_drew)); exact HO145.out) (Kd.R_base ho78) hb); have n3_ := Aside0.mk (Kd.R_elder' (by (with_reducible repeat (first | apply Kd.R_alloc | apply Kd.R_drewN | apply Kd.R_drew)); exact HO149.out) (Kd.R_base ho78) hb); have n4_ := Aside0.mk (Kd.R_lower (Kd.R_new' (Kd.R_new' (Kd.R_new' (Kd.R_new' ho78 (Kd.R_lt (by (with_reducible repeat (first | apply Kd.R_alloc | apply Kd.R_drewN | apply Kd.R_drew)); exact HO138.out))) (Kd.R_lt (by (with_reducible repeat (first | apply Kd.R_alloc | apply Kd.R_drewN | apply Kd.R_drew)); exact HO142.out))) (Kd.R_lt (by (with_reducible repeat (first | apply Kd.R_alloc | apply Kd.R_drewN | apply Kd.R_drew)); exact HO145.out))) (Kd.R_lt (by (with_reducible repeat (first | apply Kd.R_alloc | apply Kd.R_drewN | apply Kd.R_drew)); exact HO149.out))) (below_size (by repeat (first | (with_reducible first | exact HB.out | apply below_alloc | apply pw_below_drewN | apply below_drew1) | exact HB.out)))); have n5_ := Aside0.mk (below_step (by repeat (first | (with_reducible first | exact HB.out | apply below_alloc | apply pw_below_drewN | apply below_drew1) | exact HB.out)) hb); clear HO138; clear HO142; clear HO145; clear HO149; clear HB; have HO138 := n0_; have HO142 := n1_; have HO145 := n2_; have HO149 := n3_; have HO152 := n4_; have HB := n5_; clear n0_ n1_ n2_ n3_ n4_ n5_; clear hb ho78; obtain ⟨Ao79, co79, eo79⟩ := Kd.R_slice HO138.out; subst eo79; obtain ⟨Ao80, co80, eo80⟩ := Kd.R_slice HO152.out; subst eo80) | (go_at_call 19; (with_reducible refine (neonwrightlaw04_same.calls k _ _ t135 _ _ y150 false _ ?side1 ?side2 ?side3 ?side4 A8.out).mono ?_); (case side1 => repeat (first | exact (Kd.R_reads' HO138.out).2.2 | (with_reducible refine Kd.C_alloc ?_ _) | (with_reducible refine Kd.C_drewN ?_ _) | (with_reducible refine Kd.C_drew ?_))); (case side2 => exact (Kd.R_reads' HO138.out).2.1); (case side3 => repeat (first | exact (Kd.R_reads' HO152.out).2.2 | (with_reducible refine Kd.C_alloc ?_ _) | (with_reducible refine Kd.C_drewN ?_ _) | (with_reducible refine Kd.C_drew ?_))); (case side4 => exact (Kd.R_reads' HO152.out).2.1); rintro e w' ⟨rfl, ⟨nd, rfl⟩⟩))
          go_ret
          exact ⟨by first | rfl | (simp [errW_none, errW_some] <;> rfl) | (simp [*, errW_none, errW_some] <;> rfl), by repeat (first | (with_reducible first | exact HB.out | apply below_alloc | apply pw_below_drewN | apply below_drew1) | exact HB.out)⟩
      · rw [if_neg c7] at H
        have c7b0 : (t136 == 0) = false := beq_eq_false_iff_ne.mpr c7
        have c7b1 : (t136 != 0) = true := bne_iff_ne.mpr c7
        obtain rfl := Option.some.inj H
        go_enter Try.func20, Try.ntmps20
        go_wp2_with (first | ((with_reducible refine gate_callee (f := 23) rfl ?_); refine goesL_ (some 10) rfl rfl Try.func23 (by kernel_rfl) rfl #[.int .i64 3, .int .i64 5] rfl (by (try simp only [List.map_toArray, List.map_cons, List.map_nil]); first | done | rfl | (simp only [List.length_drop, List.length_take]; rfl)) ?_; (with_reducible refine (flash_Gray.calls 3 5 t133 t134 _ A1.out).mono ?_); rintro e w' ⟨rfl, ⟨nd, rfl⟩⟩; refine ⟨_, rfl, ?_⟩) | ((with_reducible refine gate_callee (f := 17) rfl ?_); refine goesL_ (some 14) rfl rfl Try.func17 (by kernel_rfl) rfl #[.int .i64 3] rfl (by (try simp only [List.map_toArray, List.map_cons, List.map_nil]); first | done | rfl | (simp only [List.length_drop, List.length_take]; rfl)) ?_; (with_reducible refine (flash_Longest.calls 3 t135 t136 _ A2.out).mono ?_); rintro e w81 ⟨v137, rfl, ho0, hb⟩; refine ⟨_, rfl, ?_⟩; have n0_ := Aside0.mk (Kd.R_lower ho0 (below_size (by repeat (first | (with_reducible first | exact HB.out | apply below_alloc | apply pw_below_drewN | apply below_drew1) | exact HB.out)))); have n1_ := Aside0.mk (below_step (by repeat (first | (with_reducible first | exact HB.out | apply below_alloc | apply pw_below_drewN | apply below_drew1) | exact HB.out)) hb); clear HB; have HO138 := n0_; have HB := n1_; clear n0_ n1_; (try clear hb); (try clear hb2); (try clear hk); (try clear hi); (try clear ho0)) | ((with_reducible refine gate_callee (f := 18) rfl ?_); refine goesL_ (some 18) rfl rfl Try.func18 (by kernel_rfl) rfl #[.int .i64 3] rfl (by (try simp only [List.map_toArray, List.map_cons, List.map_nil]); first | done | rfl | (simp only [List.length_drop, List.length_take]; rfl)) ?_; (with_reducible refine (flash_Coil.calls 3 t139 t140 _ A3.out).mono ?_); rintro e w82 ⟨v141, rfl, ho0, hb⟩; refine ⟨_, rfl, ?_⟩; have n0_ := Aside0.mk (Kd.R_elder' (by (with_reducible repeat (first | apply Kd.R_alloc | apply Kd.R_drewN | apply Kd.R_drew)); exact HO138.out) (Kd.R_base ho0) hb); have n1_ := Aside0.mk (Kd.R_lower (Kd.R_new' ho0 (Kd.R_lt (by (with_reducible repeat (first | apply Kd.R_alloc | apply Kd.R_drewN | apply Kd.R_drew)); exact HO138.out))) (below_size (by repeat (first | (with_reducible first | exact HB.out | apply below_alloc | apply pw_below_drewN | apply below_drew1) | exact HB.out)))); have n2_ := Aside0.mk (below_step (by repeat (first | (with_reducible first | exact HB.out | apply below_alloc | apply pw_below_drewN | apply below_drew1) | exact HB.out)) hb); clear HO138; clear HB; have HO138 := n0_; have HO142 := n1_; have HB := n2_; clear n0_ n1_ n2_; (try clear hb); (try clear hb2); (try clear hk); (try clear hi); (try clear ho0)) | ((with_reducible refine gate_dst (N := 22) rfl ?_); (try (refine gate_guard (by rfl) ?_; dsimp only)); refine Kd.R_lit (Kd.int .i64) _ 3 ?hg (N := 22) ?hd (xs := ([5, 4, 6] : List Int)) (inner := [.int .i64 5, .int .i64 4, .int .i64 6]) (ok := fun _ => True) (okp := fun _ => True) ?hr ?hp (fun _ hk => hk) trivial (Below.refl _ _) (Nat.le_refl _) (by simp) ?_; (case hd => rfl); (case hg => rfl); (case hr => first | (go_simp; done) | (go_simp; rfl)); (case hp => exact (Reps.one (show Kd.M (Kd.int .i64) _ _ _ 5 [.int .i64 5] from rfl) (Reps.one (show Kd.M (Kd.int .i64) _ _ _ 4 [.int .i64 4] from rfl) (Reps.one (show Kd.M (Kd.int .i64) _ _ _ 6 [.int .i64 6] from rfl) (Reps.none _ _))))); intro v144 w83 ho84 hb hg_ hnew_; clear hg_ hnew_; (first | rw [← Ny143.out] at ho84 | (simp only [Int.reduceToNat] at ho84; rw [← Ny143.out] at ho84)); have n0_ := Aside0.mk (Kd.R_elder' (by (with_reducible repeat (first | apply Kd.R_alloc | apply Kd.R_drewN | apply Kd.R_drew)); exact HO138.out) (Kd.R_base ho84) hb); have n1_ := Aside0.mk (Kd.R_elder' (by (with_reducible repeat (first | apply Kd.R_alloc | apply Kd.R_drewN | apply Kd.R_drew)); exact HO142.out) (Kd.R_base ho84) hb); have n2_ := Aside0.mk (Kd.R_lower (Kd.R_new' (Kd.R_new' ho84 (Kd.R_lt (by (with_reducible repeat (first | apply Kd.R_alloc | apply Kd.R_drewN | apply Kd.R_drew)); exact HO138.out))) (Kd.R_lt (by (with_reducible repeat (first | apply Kd.R_alloc | apply Kd.R_drewN | apply Kd.R_drew)); exact HO142.out))) (below_size (by repeat (first | (with_reducible first | exact HB.out | apply below_alloc | apply pw_below_drewN | apply below_drew1) | exact HB.out)))); have n3_ := Aside0.mk (below_step (by repeat (first | (with_reducible first | exact HB.out | apply below_alloc | apply pw_below_drewN | apply below_drew1) | exact HB.out)) hb); clear HO138; clear HO142; clear HB; have HO138 := n0_; have HO142 := n1_; have HO145 := n2_; have HB := n3_; clear n0_ n1_ n2_ n3_; clear hb ho84; obtain ⟨Ao85, co85, eo85⟩ := Kd.R_slice HO145.out; subst eo85) | ((with_reducible refine gate_callee (f := 33) rfl ?_); refine goesL_ (some 23) rfl rfl Try.func33 (by kernel_rfl) rfl #[.int .i64 3, .slice Ao85 y143.length co85] rfl (by (try simp only [List.map_toArray, List.map_cons, List.map_nil]); first | done | rfl | (simp only [List.length_drop, List.length_take]; rfl)) ?_; (with_reducible refine (flash_Normal.calls 3 _ _ y143 t146 t147 _ ?side1 ?side2 A4.out).mono ?_); (case side1 => repeat (first | exact (Kd.R_reads' HO145.out).2.2 | (with_reducible refine Kd.C_alloc ?_ _) | (with_reducible refine Kd.C_drewN ?_ _) | (with_reducible refine Kd.C_drew ?_))); (case side2 => exact (Kd.R_reads' HO145.out).2.1); rintro e w86 ⟨v148, rfl, ho0, hb⟩; refine ⟨_, rfl, ?_⟩; have n0_ := Aside0.mk (Kd.R_elder' (by (with_reducible repeat (first | apply Kd.R_alloc | apply Kd.R_drewN | apply Kd.R_drew)); exact HO138.out) (Kd.R_base ho0) hb); have n1_ := Aside0.mk (Kd.R_elder' (by (with_reducible repeat (first | apply Kd.R_alloc | apply Kd.R_drewN | apply Kd.R_drew)); exact HO142.out) (Kd.R_base ho0) hb); have n2_ := Aside0.mk (Kd.R_elder' (by (with_reducible repeat (first | apply Kd.R_alloc | apply Kd.R_drewN | apply Kd.R_drew)); exact HO145.out) (Kd.R_base ho0) hb); have n3_ := Aside0.mk (Kd.R_lower (Kd.R_new' (Kd.R_new' (Kd.R_new' ho0 (Kd.R_lt (by (with_reducible repeat (first | apply Kd.R_alloc | apply Kd.R_drewN | apply Kd.R_drew)); exact HO138.out))) (Kd.R_lt (by (with_reducible repeat (first | apply Kd.R_alloc | apply Kd.R_drewN | apply Kd.R_drew)); exact HO142.out))) (Kd.R_lt (by (with_reducible repeat (first | apply Kd.R_alloc | apply Kd.R_drewN | apply Kd.R_drew)); exact HO145.out))) (below_size (by repeat (first | (with_reducible first | exact HB.out | apply below_alloc | apply pw_below_drewN | apply below_drew1) | exact HB.out)))); have n4_ := Aside0.mk (below_step (by repeat (first | (with_reducible first | exact HB.out | apply below_alloc | apply pw_below_drewN | apply below_drew1) | exact HB.out)) hb); clear HO138; clear HO142; clear HO145; clear HB; have HO138 := n0_; have HO142 := n1_; have HO145 := n2_; have HO149 := n3_; have HB := n4_; clear n0_ n1_ n2_ n3_ n4_; (try clear hb); (try clear hb2); (try clear hk); (try clear hi); (try clear ho0)))
        go_ret
        exact ⟨by first | rfl | (simp [errW_none, errW_some] <;> rfl) | (simp [*, errW_none, errW_some] <;> rfl), by repeat (first | (with_reducible first | exact HB.out | apply below_alloc | apply pw_below_drewN | apply below_drew1) | exact HB.out)⟩
    · rw [if_neg c6] at H
      have c6b0 : (t133 == 7) = false := beq_eq_false_iff_ne.mpr c6
      have c6b1 : (t133 != 7) = true := bne_iff_ne.mpr c6
      obtain rfl := Option.some.inj H
      go_enter Try.func20, Try.ntmps20
      go_wp2_with (first | ((with_reducible refine gate_callee (f := 23) rfl ?_); refine goesL_ (some 10) rfl rfl Try.func23 (by kernel_rfl) rfl #[.int .i64 3, .int .i64 5] rfl (by (try simp only [List.map_toArray, List.map_cons, List.map_nil]); first | done | rfl | (simp only [List.length_drop, List.length_take]; rfl)) ?_; (with_reducible refine (flash_Gray.calls 3 5 t133 t134 _ A1.out).mono ?_); rintro e w' ⟨rfl, ⟨nd, rfl⟩⟩; refine ⟨_, rfl, ?_⟩) | ((with_reducible refine gate_callee (f := 17) rfl ?_); refine goesL_ (some 14) rfl rfl Try.func17 (by kernel_rfl) rfl #[.int .i64 3] rfl (by (try simp only [List.map_toArray, List.map_cons, List.map_nil]); first | done | rfl | (simp only [List.length_drop, List.length_take]; rfl)) ?_; (with_reducible refine (flash_Longest.calls 3 t135 t136 _ A2.out).mono ?_); rintro e w87 ⟨v137, rfl, ho0, hb⟩; refine ⟨_, rfl, ?_⟩; have n0_ := Aside0.mk (Kd.R_lower ho0 (below_size (by repeat (first | (with_reducible first | exact HB.out | apply below_alloc | apply pw_below_drewN | apply below_drew1) | exact HB.out)))); have n1_ := Aside0.mk (below_step (by repeat (first | (with_reducible first | exact HB.out | apply below_alloc | apply pw_below_drewN | apply below_drew1) | exact HB.out)) hb); clear HB; have HO138 := n0_; have HB := n1_; clear n0_ n1_; (try clear hb); (try clear hb2); (try clear hk); (try clear hi); (try clear ho0)) | ((with_reducible refine gate_callee (f := 18) rfl ?_); refine goesL_ (some 18) rfl rfl Try.func18 (by kernel_rfl) rfl #[.int .i64 3] rfl (by (try simp only [List.map_toArray, List.map_cons, List.map_nil]); first | done | rfl | (simp only [List.length_drop, List.length_take]; rfl)) ?_; (with_reducible refine (flash_Coil.calls 3 t139 t140 _ A3.out).mono ?_); rintro e w88 ⟨v141, rfl, ho0, hb⟩; refine ⟨_, rfl, ?_⟩; have n0_ := Aside0.mk (Kd.R_elder' (by (with_reducible repeat (first | apply Kd.R_alloc | apply Kd.R_drewN | apply Kd.R_drew)); exact HO138.out) (Kd.R_base ho0) hb); have n1_ := Aside0.mk (Kd.R_lower (Kd.R_new' ho0 (Kd.R_lt (by (with_reducible repeat (first | apply Kd.R_alloc | apply Kd.R_drewN | apply Kd.R_drew)); exact HO138.out))) (below_size (by repeat (first | (with_reducible first | exact HB.out | apply below_alloc | apply pw_below_drewN | apply below_drew1) | exact HB.out)))); have n2_ := Aside0.mk (below_step (by repeat (first | (with_reducible first | exact HB.out | apply below_alloc | apply pw_below_drewN | apply below_drew1) | exact HB.out)) hb); clear HO138; clear HB; have HO138 := n0_; have HO142 := n1_; have HB := n2_; clear n0_ n1_ n2_; (try clear hb); (try clear hb2); (try clear hk); (try clear hi); (try clear ho0)) | ((with_reducible refine gate_dst (N := 22) rfl ?_); (try (refine gate_guard (by rfl) ?_; dsimp only)); refine Kd.R_lit (Kd.int .i64) _ 3 ?hg (N := 22) ?hd (xs := ([5, 4, 6] : List Int)) (inner := [.int .i64 5, .int .i64 4, .int .i64 6]) (ok := fun _ => True) (okp := fun _ => True) ?hr ?hp (fun _ hk => hk) trivial (Below.refl _ _) (Nat.le_refl _) (by simp) ?_; (case hd => rfl); (case hg => rfl); (case hr => first | (go_simp; done) | (go_simp; rfl)); (case hp => exact (Reps.one (show Kd.M (Kd.int .i64) _ _ _ 5 [.int .i64 5] from rfl) (Reps.one (show Kd.M (Kd.int .i64) _ _ _ 4 [.int .i64 4] from rfl) (Reps.one (show Kd.M (Kd.int .i64) _ _ _ 6 [.int .i64 6] from rfl) (Reps.none _ _))))); intro v144 w89 ho90 hb hg_ hnew_; clear hg_ hnew_; (first | rw [← Ny143.out] at ho90 | (simp only [Int.reduceToNat] at ho90; rw [← Ny143.out] at ho90)); have n0_ := Aside0.mk (Kd.R_elder' (by (with_reducible repeat (first | apply Kd.R_alloc | apply Kd.R_drewN | apply Kd.R_drew)); exact HO138.out) (Kd.R_base ho90) hb); have n1_ := Aside0.mk (Kd.R_elder' (by (with_reducible repeat (first | apply Kd.R_alloc | apply Kd.R_drewN | apply Kd.R_drew)); exact HO142.out) (Kd.R_base ho90) hb); have n2_ := Aside0.mk (Kd.R_lower (Kd.R_new' (Kd.R_new' ho90 (Kd.R_lt (by (with_reducible repeat (first | apply Kd.R_alloc | apply Kd.R_drewN | apply Kd.R_drew)); exact HO138.out))) (Kd.R_lt (by (with_reducible repeat (first | apply Kd.R_alloc | apply Kd.R_drewN | apply Kd.R_drew)); exact HO142.out))) (below_size (by repeat (first | (with_reducible first | exact HB.out | apply below_alloc | apply pw_below_drewN | apply below_drew1) | exact HB.out)))); have n3_ := Aside0.mk (below_step (by repeat (first | (with_reducible first | exact HB.out | apply below_alloc | apply pw_below_drewN | apply below_drew1) | exact HB.out)) hb); clear HO138; clear HO142; clear HB; have HO138 := n0_; have HO142 := n1_; have HO145 := n2_; have HB := n3_; clear n0_ n1_ n2_ n3_; clear hb ho90; obtain ⟨Ao91, co91, eo91⟩ := Kd.R_slice HO145.out; subst eo91) | ((with_reducible refine gate_callee (f := 33) rfl ?_); refine goesL_ (some 23) rfl rfl Try.func33 (by kernel_rfl) rfl #[.int .i64 3, .slice Ao91 y143.length co91] rfl (by (try simp only [List.map_toArray, List.map_cons, List.map_nil]); first | done | rfl | (simp only [List.length_drop, List.length_take]; rfl)) ?_; (with_reducible refine (flash_Normal.calls 3 _ _ y143 t146 t147 _ ?side1 ?side2 A4.out).mono ?_); (case side1 => repeat (first | exact (Kd.R_reads' HO145.out).2.2 | (with_reducible refine Kd.C_alloc ?_ _) | (with_reducible refine Kd.C_drewN ?_ _) | (with_reducible refine Kd.C_drew ?_))); (case side2 => exact (Kd.R_reads' HO145.out).2.1); rintro e w92 ⟨v148, rfl, ho0, hb⟩; refine ⟨_, rfl, ?_⟩; have n0_ := Aside0.mk (Kd.R_elder' (by (with_reducible repeat (first | apply Kd.R_alloc | apply Kd.R_drewN | apply Kd.R_drew)); exact HO138.out) (Kd.R_base ho0) hb); have n1_ := Aside0.mk (Kd.R_elder' (by (with_reducible repeat (first | apply Kd.R_alloc | apply Kd.R_drewN | apply Kd.R_drew)); exact HO142.out) (Kd.R_base ho0) hb); have n2_ := Aside0.mk (Kd.R_elder' (by (with_reducible repeat (first | apply Kd.R_alloc | apply Kd.R_drewN | apply Kd.R_drew)); exact HO145.out) (Kd.R_base ho0) hb); have n3_ := Aside0.mk (Kd.R_lower (Kd.R_new' (Kd.R_new' (Kd.R_new' ho0 (Kd.R_lt (by (with_reducible repeat (first | apply Kd.R_alloc | apply Kd.R_drewN | apply Kd.R_drew)); exact HO138.out))) (Kd.R_lt (by (with_reducible repeat (first | apply Kd.R_alloc | apply Kd.R_drewN | apply Kd.R_drew)); exact HO142.out))) (Kd.R_lt (by (with_reducible repeat (first | apply Kd.R_alloc | apply Kd.R_drewN | apply Kd.R_drew)); exact HO145.out))) (below_size (by repeat (first | (with_reducible first | exact HB.out | apply below_alloc | apply pw_below_drewN | apply below_drew1) | exact HB.out)))); have n4_ := Aside0.mk (below_step (by repeat (first | (with_reducible first | exact HB.out | apply below_alloc | apply pw_below_drewN | apply below_drew1) | exact HB.out)) hb); clear HO138; clear HO142; clear HO145; clear HB; have HO138 := n0_; have HO142 := n1_; have HO145 := n2_; have HO149 := n3_; have HB := n4_; clear n0_ n1_ n2_ n3_ n4_; (try clear hb); (try clear hb2); (try clear hk); (try clear hi); (try clear ho0)))
      go_ret
      exact ⟨by first | rfl | (simp [errW_none, errW_some] <;> rfl) | (simp [*, errW_none, errW_some] <;> rfl), by repeat (first | (with_reducible first | exact HB.out | apply below_alloc | apply pw_below_drewN | apply below_drew1) | exact HB.out)⟩
  · rw [if_neg c5] at H
    have c5b0 : (t134 == 0) = false := beq_eq_false_iff_ne.mpr c5
    have c5b1 : (t134 != 0) = true := bne_iff_ne.mpr c5
    obtain rfl := Option.some.inj H
    go_enter Try.func20, Try.ntmps20
    go_wp2_with (first | ((with_reducible refine gate_callee (f := 23) rfl ?_); refine goesL_ (some 10) rfl rfl Try.func23 (by kernel_rfl) rfl #[.int .i64 3, .int .i64 5] rfl (by (try simp only [List.map_toArray, List.map_cons, List.map_nil]); first | done | rfl | (simp only [List.length_drop, List.length_take]; rfl)) ?_; (with_reducible refine (flash_Gray.calls 3 5 t133 t134 _ A1.out).mono ?_); rintro e w' ⟨rfl, ⟨nd, rfl⟩⟩; refine ⟨_, rfl, ?_⟩) | ((with_reducible refine gate_callee (f := 17) rfl ?_); refine goesL_ (some 14) rfl rfl Try.func17 (by kernel_rfl) rfl #[.int .i64 3] rfl (by (try simp only [List.map_toArray, List.map_cons, List.map_nil]); first | done | rfl | (simp only [List.length_drop, List.length_take]; rfl)) ?_; (with_reducible refine (flash_Longest.calls 3 t135 t136 _ A2.out).mono ?_); rintro e w93 ⟨v137, rfl, ho0, hb⟩; refine ⟨_, rfl, ?_⟩; have n0_ := Aside0.mk (Kd.R_lower ho0 (below_size (by repeat (first | (with_reducible first | exact HB.out | apply below_alloc | apply pw_below_drewN | apply below_drew1) | exact HB.out)))); have n1_ := Aside0.mk (below_step (by repeat (first | (with_reducible first | exact HB.out | apply below_alloc | apply pw_below_drewN | apply below_drew1) | exact HB.out)) hb); clear HB; have HO138 := n0_; have HB := n1_; clear n0_ n1_; (try clear hb); (try clear hb2); (try clear hk); (try clear hi); (try clear ho0)) | ((with_reducible refine gate_callee (f := 18) rfl ?_); refine goesL_ (some 18) rfl rfl Try.func18 (by kernel_rfl) rfl #[.int .i64 3] rfl (by (try simp only [List.map_toArray, List.map_cons, List.map_nil]); first | done | rfl | (simp only [List.length_drop, List.length_take]; rfl)) ?_; (with_reducible refine (flash_Coil.calls 3 t139 t140 _ A3.out).mono ?_); rintro e w94 ⟨v141, rfl, ho0, hb⟩; refine ⟨_, rfl, ?_⟩; have n0_ := Aside0.mk (Kd.R_elder' (by (with_reducible repeat (first | apply Kd.R_alloc | apply Kd.R_drewN | apply Kd.R_drew)); exact HO138.out) (Kd.R_base ho0) hb); have n1_ := Aside0.mk (Kd.R_lower (Kd.R_new' ho0 (Kd.R_lt (by (with_reducible repeat (first | apply Kd.R_alloc | apply Kd.R_drewN | apply Kd.R_drew)); exact HO138.out))) (below_size (by repeat (first | (with_reducible first | exact HB.out | apply below_alloc | apply pw_below_drewN | apply below_drew1) | exact HB.out)))); have n2_ := Aside0.mk (below_step (by repeat (first | (with_reducible first | exact HB.out | apply below_alloc | apply pw_below_drewN | apply below_drew1) | exact HB.out)) hb); clear HO138; clear HB; have HO138 := n0_; have HO142 := n1_; have HB := n2_; clear n0_ n1_ n2_; (try clear hb); (try clear hb2); (try clear hk); (try clear hi); (try clear ho0)) | ((with_reducible refine gate_dst (N := 22) rfl ?_); (try (refine gate_guard (by rfl) ?_; dsimp only)); refine Kd.R_lit (Kd.int .i64) _ 3 ?hg (N := 22) ?hd (xs := ([5, 4, 6] : List Int)) (inner := [.int .i64 5, .int .i64 4, .int .i64 6]) (ok := fun _ => True) (okp := fun _ => True) ?hr ?hp (fun _ hk => hk) trivial (Below.refl _ _) (Nat.le_refl _) (by simp) ?_; (case hd => rfl); (case hg => rfl); (case hr => first | (go_simp; done) | (go_simp; rfl)); (case hp => exact (Reps.one (show Kd.M (Kd.int .i64) _ _ _ 5 [.int .i64 5] from rfl) (Reps.one (show Kd.M (Kd.int .i64) _ _ _ 4 [.int .i64 4] from rfl) (Reps.one (show Kd.M (Kd.int .i64) _ _ _ 6 [.int .i64 6] from rfl) (Reps.none _ _))))); intro v144 w95 ho96 hb hg_ hnew_; clear hg_ hnew_; (first | rw [← Ny143.out] at ho96 | (simp only [Int.reduceToNat] at ho96; rw [← Ny143.out] at ho96)); have n0_ := Aside0.mk (Kd.R_elder' (by (with_reducible repeat (first | apply Kd.R_alloc | apply Kd.R_drewN | apply Kd.R_drew)); exact HO138.out) (Kd.R_base ho96) hb); have n1_ := Aside0.mk (Kd.R_elder' (by (with_reducible repeat (first | apply Kd.R_alloc | apply Kd.R_drewN | apply Kd.R_drew)); exact HO142.out) (Kd.R_base ho96) hb); have n2_ := Aside0.mk (Kd.R_lower (Kd.R_new' (Kd.R_new' ho96 (Kd.R_lt (by (with_reducible repeat (first | apply Kd.R_alloc | apply Kd.R_drewN | apply Kd.R_drew)); exact HO138.out))) (Kd.R_lt (by (with_reducible repeat (first | apply Kd.R_alloc | apply Kd.R_drewN | apply Kd.R_drew)); exact HO142.out))) (below_size (by repeat (first | (with_reducible first | exact HB.out | apply below_alloc | apply pw_below_drewN | apply below_drew1) | exact HB.out)))); have n3_ := Aside0.mk (below_step (by repeat (first | (with_reducible first | exact HB.out | apply below_alloc | apply pw_below_drewN | apply below_drew1) | exact HB.out)) hb); clear HO138; clear HO142; clear HB; have HO138 := n0_; have HO142 := n1_; have HO145 := n2_; have HB := n3_; clear n0_ n1_ n2_ n3_; clear hb ho96; obtain ⟨Ao97, co97, eo97⟩ := Kd.R_slice HO145.out; subst eo97) | ((with_reducible refine gate_callee (f := 33) rfl ?_); refine goesL_ (some 23) rfl rfl Try.func33 (by kernel_rfl) rfl #[.int .i64 3, .slice Ao97 y143.length co97] rfl (by (try simp only [List.map_toArray, List.map_cons, List.map_nil]); first | done | rfl | (simp only [List.length_drop, List.length_take]; rfl)) ?_; (with_reducible refine (flash_Normal.calls 3 _ _ y143 t146 t147 _ ?side1 ?side2 A4.out).mono ?_); (case side1 => repeat (first | exact (Kd.R_reads' HO145.out).2.2 | (with_reducible refine Kd.C_alloc ?_ _) | (with_reducible refine Kd.C_drewN ?_ _) | (with_reducible refine Kd.C_drew ?_))); (case side2 => exact (Kd.R_reads' HO145.out).2.1); rintro e w98 ⟨v148, rfl, ho0, hb⟩; refine ⟨_, rfl, ?_⟩; have n0_ := Aside0.mk (Kd.R_elder' (by (with_reducible repeat (first | apply Kd.R_alloc | apply Kd.R_drewN | apply Kd.R_drew)); exact HO138.out) (Kd.R_base ho0) hb); have n1_ := Aside0.mk (Kd.R_elder' (by (with_reducible repeat (first | apply Kd.R_alloc | apply Kd.R_drewN | apply Kd.R_drew)); exact HO142.out) (Kd.R_base ho0) hb); have n2_ := Aside0.mk (Kd.R_elder' (by (with_reducible repeat (first | apply Kd.R_alloc | apply Kd.R_drewN | apply Kd.R_drew)); exact HO145.out) (Kd.R_base ho0) hb); have n3_ := Aside0.mk (Kd.R_lower (Kd.R_new' (Kd.R_new' (Kd.R_new' ho0 (Kd.R_lt (by (with_reducible repeat (first | apply Kd.R_alloc | apply Kd.R_drewN | apply Kd.R_drew)); exact HO138.out))) (Kd.R_lt (by (with_reducible repeat (first | apply Kd.R_alloc | apply Kd.R_drewN | apply Kd.R_drew)); exact HO142.out))) (Kd.R_lt (by (with_reducible repeat (first | apply Kd.R_alloc | apply Kd.R_drewN | apply Kd.R_drew)); exact HO145.out))) (below_size (by repeat (first | (with_reducible first | exact HB.out | apply below_alloc | apply pw_below_drewN | apply below_drew1) | exact HB.out)))); have n4_ := Aside0.mk (below_step (by repeat (first | (with_reducible first | exact HB.out | apply below_alloc | apply pw_below_drewN | apply below_drew1) | exact HB.out)) hb); clear HO138; clear HO142; clear HO145; clear HB; have HO138 := n0_; have HO142 := n1_; have HO145 := n2_; have HO149 := n3_; have HB := n4_; clear n0_ n1_ n2_ n3_ n4_; (try clear hb); (try clear hb2); (try clear hk); (try clear hi); (try clear ho0)))
    go_ret
    exact ⟨by first | rfl | (simp [errW_none, errW_some] <;> rfl) | (simp [*, errW_none, errW_some] <;> rfl), by repeat (first | (with_reducible first | exact HB.out | apply below_alloc | apply pw_below_drewN | apply below_drew1) | exact HB.out)⟩

end Go.Proofs.Ytnakkdaeehglnaa.P

namespace Go.Proofs.Ytnakkdaeehglnaa.P
open Go.RowKit Go.Proofs.YtnakkdaeehglnaaW.PrintWords Go.Proofs.YtnakkdaeehglnaaW.PrintLast Go.Proofs.YtnakkdaeehglnaaW.PrintMore
attribute [local go_sem] max2_int min2_int max_two min_two max_three min_three max_four min_four   -- for this text's walks alone
set_option linter.unusedVariables false
set_option linter.unusedSimpArgs false

/-! ### neonwrightref04_Tubes: function 39 -/
def neonwrightref04_Tubes.f (a0 : Int) : Option (Bool) := if a0 ≥ 1 then (some (decide (a0 ≤ 12))) else (some false)
set_option maxHeartbeats 8000000 in
set_option maxRecDepth 100000 in
theorem neonwrightref04_Tubes.calls (a0 : Int) (r : Bool) (w : World) (h : neonwrightref04_Tubes.f a0 = some r) :
    Calls Try.prog 39 #[.int .i64 a0] w fun e w' => e = .returned (.bool r) ∧ Drawn0 w w' := by
  have H : (if a0 ≥ 1 then (some (decide (a0 ≤ 12))) else (some false)) = some r := h
  clear h
  by_cases c2 : a0 ≥ 1
  · rw [if_pos c2] at H
    have c2b0 : decide (1 ≤ a0) = true := decide_eq_true c2
    clear c2
    obtain rfl := Option.some.inj H
    go_enter Try.func39, Try.ntmps39
    go_wp2
    go_ret
    exact ⟨by first | rfl | (simp; done) | (simp [*]; done), by repeat (first | exact Drawn0.refl _ | apply Drawn0.step)⟩
  · rw [if_neg c2] at H
    have c2b0 : decide (1 ≤ a0) = false := decide_eq_false c2
    clear c2
    obtain rfl := Option.some.inj H
    go_enter Try.func39, Try.ntmps39
    go_wp2
    go_ret
    exact ⟨by first | rfl | (simp; done) | (simp [*]; done), by repeat (first | exact Drawn0.refl _ | apply Drawn0.step)⟩

end Go.Proofs.Ytnakkdaeehglnaa.P

set_option linter.unusedSimpArgs false
set_option linter.unusedVariables false
namespace Go.Proofs.Ytnakkdaeehglnaa.P
open Go.RowKit Go.Proofs.YtnakkdaeehglnaaW.PrintWords Go.Proofs.YtnakkdaeehglnaaW.PrintMore Go.Proofs.Ytnakkdaeehglnaa.Kit

theorem alive_ev : Ev (fun k => neonwrightlaw04_alive.f k) true := Ev.of (fun k => neonwrightlaw04_alive.mono k) (k := 60) (by decide +kernel)

theorem same_l0 (a b : List Int) (hl : a.length = b.length) (hn : a.length ≤ 4611686018427387904) : ∀ d (i : Nat), i + d = a.length →
    Ev (fun k => neonwrightlaw04_same.l0 k a b (i : Int)) (decide (a.drop i = b.drop i)) := by
  intro d
  induction d with
  | zero =>
    intro i h
    refine Ev.at 1 (fun k hk => ?_)
    obtain ⟨k, rfl⟩ : ∃ j, k = j + 1 := ⟨k - 1, by omega⟩
    simp only [neonwrightlaw04_same.l0]
    rw [if_neg (by omega)]
    have : decide (a.drop i = b.drop i) = true := decide_eq_true (by rw [List.drop_of_length_le (by omega), List.drop_of_length_le (by omega)])
    rw [this]
  | succ d ih =>
    intro i h
    have hi : i < a.length := by omega
    have hi' : i < b.length := by omega
    have e1 : wrap64 ((i : Int) + 1) = ((i + 1 : Nat) : Int) := by rw [w64 (by omega) (by omega)]; omega
    have hs : (decide (a.drop i = b.drop i)) = (decide (a[i] = b[i]) && decide (a.drop (i + 1) = b.drop (i + 1))) := by
      rw [List.drop_eq_getElem_cons hi, List.drop_eq_getElem_cons hi']
      simp only [List.cons.injEq, Bool.decide_and]
    refine Ev.step (f := fun k => if a[i] = b[i] then neonwrightlaw04_same.l0 k a b ((i + 1 : Nat) : Int) else some false) (fun k => ?_) ?_
    · simp only [neonwrightlaw04_same.l0]
      rw [if_pos (by omega), if_pos (by omega), if_pos (by omega), rd_get a i hi, rd_get b i hi', e1]
    · rw [hs]
      by_cases h1 : a[i] = b[i]
      · refine Ev.pos h1 ?_
        rw [decide_eq_true h1]
        exact ih (i + 1) (by omega)
      · refine Ev.neg h1 ?_
        rw [decide_eq_false h1]
        exact Ev.now _
theorem same_ev (a b : List Int) (hn : a.length ≤ 4611686018427387904) (hm : b.length ≤ 4611686018427387904) : Ev (fun k => neonwrightlaw04_same.f k a b) (decide (a = b)) := by
  by_cases h : a.length = b.length
  · refine Ev.congr (f := fun k => neonwrightlaw04_same.l0 k a b 0) (fun k => ?_) (by simpa using same_l0 a b h hn a.length 0 (by omega))
    simp only [neonwrightlaw04_same.f]
    rw [if_pos (by omega)]
  · refine Ev.at 0 (fun k hk => ?_)
    simp only [neonwrightlaw04_same.f]
    rw [if_neg (by omega), decide_eq_false (fun e => h (by rw [e]))]
theorem same_self (a : List Int) (hn : a.length ≤ 4611686018427387904) : Ev (fun k => neonwrightlaw04_same.f k a a) true := by
  have := same_ev a a hn hn
  rwa [decide_eq_true rfl] at this
theorem casts {a : Int} (h : (Lit.int .i64 a).wf = true) : -9223372036854775808 ≤ a ∧ a ≤ 9223372036854775807 := by
  have hmin : IntKind.i64.min = -9223372036854775808 := rfl
  have hmax : IntKind.i64.max = 9223372036854775807 := rfl
  simp only [Lit.wf, Bool.and_eq_true, decide_eq_true_eq] at h
  omega
theorem castu8 {a : Int} (h : (Lit.int .u8 a).wf = true) : 0 ≤ a ∧ a ≤ 255 := by
  have hmin : IntKind.u8.min = 0 := rfl
  have hmax : IntKind.u8.max = 255 := rfl
  simp only [Lit.wf, Bool.and_eq_true, decide_eq_true_eq] at h
  omega
theorem castu16 {a : Int} (h : (Lit.int .u16 a).wf = true) : 0 ≤ a ∧ a ≤ 65535 := by
  have hmin : IntKind.u16.min = 0 := rfl
  have hmax : IntKind.u16.max = 65535 := rfl
  simp only [Lit.wf, Bool.and_eq_true, decide_eq_true_eq] at h
  omega
theorem sized_f (n : Int) : flash_sized.f n = some (decide (1 ≤ n ∧ n ≤ 12)) := by
  unfold flash_sized.f
  by_cases h : n ≥ 1
  · rw [if_pos h]
    congr 1
    by_cases h2 : n ≤ 12
    · rw [decide_eq_true h2, decide_eq_true ⟨h, h2⟩]
    · rw [decide_eq_false h2, decide_eq_false (fun h3 => h2 h3.2)]
  · rw [if_neg h, decide_eq_false (fun h3 => h h3.1)]
theorem tubes_f (n : Int) : neonwrightref04_Tubes.f n = some (decide (1 ≤ n ∧ n ≤ 12)) := by
  unfold neonwrightref04_Tubes.f
  by_cases h : n ≥ 1
  · rw [if_pos h]
    congr 1
    by_cases h2 : n ≤ 12
    · rw [decide_eq_true h2, decide_eq_true ⟨h, h2⟩]
    · rw [decide_eq_false h2, decide_eq_false (fun h3 => h2 h3.2)]
  · rw [if_neg h, decide_eq_false (fun h3 => h h3.1)]
end Go.Proofs.Ytnakkdaeehglnaa.P
