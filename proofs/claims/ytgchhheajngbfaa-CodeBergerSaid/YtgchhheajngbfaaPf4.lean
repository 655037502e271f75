-- Written by a program of this session (myprint.py, over the kit's print). Not trusted: Lean checks it.
import Derived.Test.YtgchhheajngbfaaPt
import Derived.Test.YtgchhheajngbfaaPf18
import Derived.Test.YtgchhheajngbfaaPf19
import Derived.Test.YtgchhheajngbfaaPf20
import Derived.Test.YtgchhheajngbfaaPf21
import Derived.Test.YtgchhheajngbfaaPf22
namespace Go.Proofs.Ytgchhheajngbfaa.P
open Go.RowKit Go.Proofs.YtgchhheajngbfaaW.PrintWords Go.Proofs.YtgchhheajngbfaaW.PrintLast Go.Proofs.YtgchhheajngbfaaW.PrintMore
attribute [local go_sem] max2_int min2_int max_two min_two max_three min_three max_four min_four   -- for this text's walks alone
set_option linter.unusedVariables false
set_option linter.unusedSimpArgs false

/-! ### neonwrightlaw03_CodeBerger: function 4 -/
def neonwrightlaw03_CodeBerger.j0 : Nat → Int → Int → Bool → Option (Bool)
  | 0, _, _, _ => none
  | k + 1, x0, x2, x34 => if x34 = true then (some false) else ((code_Decode.f x0 x2).bind fun bt202 => ((neonwrightref03_Decode.f k x0 x2).bind fun bt205 => (if bt202.1 = bt205.1 then (if (bt202.2.1 == bt205.2.1) = true then (if bt202.2.2 = bt205.2.2 then ((neonwrightlaw03_alive.f k).bind fun t208 => (some t208)) else (some false)) else (some false)) else (some false))))
def neonwrightlaw03_CodeBerger.f (k : Nat) (a0 : Int) (a1 : Int) (a2 : Int) : Option (Bool) := (code_Berger.f a0 a1).bind fun bt198 => ((neonwrightref03_Berger.f k a0 a1).bind fun bt200 => (if bt198.1 = bt200.1 then (neonwrightlaw03_CodeBerger.j0 k a0 a2 (bt198.2 != bt200.2)) else (neonwrightlaw03_CodeBerger.j0 k a0 a2 true)))
theorem neonwrightlaw03_CodeBerger.mono_l : ∀ k, (∀ y0 y1 y2, LeO (neonwrightlaw03_CodeBerger.j0 k y0 y1 y2) (neonwrightlaw03_CodeBerger.j0 (k + 1) y0 y1 y2))
  | 0 => fun _ _ _ r h => by simp [neonwrightlaw03_CodeBerger.j0] at h
  | k + 1 => by
    have ih0 := neonwrightlaw03_CodeBerger.mono_l k
    · intro y0 y1 y2
      unfold neonwrightlaw03_CodeBerger.j0
      repeat' first
      | (with_reducible exact ih0 _ _ _)
      | (with_reducible exact neonwrightlaw03_alive.mono _)
      | (with_reducible exact neonwrightref03_Berger.mono _ _ _)
      | (with_reducible exact neonwrightref03_Decode.mono _ _ _)
      | (with_reducible exact LeO.refl _)
      | (with_reducible exact LeO.none _)
      | (with_reducible refine LeO.ite ?_ ?_)
      | (with_reducible refine LeO.bind ?_ (fun _ => ?_))
      | exact ih0 _ _ _
      | exact neonwrightlaw03_alive.mono _
      | exact neonwrightref03_Berger.mono _ _ _
      | exact neonwrightref03_Decode.mono _ _ _
      | exact LeO.none _
      | refine LeO.ite ?_ ?_
      | refine LeO.bind ?_ (fun _ => ?_)
theorem neonwrightlaw03_CodeBerger.mono : ∀ a0 a1 a2 k, LeO (neonwrightlaw03_CodeBerger.f k a0 a1 a2) (neonwrightlaw03_CodeBerger.f (k + 1) a0 a1 a2) := by
  intro a0 a1 a2 k
  have ih0 := neonwrightlaw03_CodeBerger.mono_l k
  unfold neonwrightlaw03_CodeBerger.f
  repeat' first
      | (with_reducible exact ih0 _ _ _)
      | (with_reducible exact neonwrightlaw03_alive.mono _)
      | (with_reducible exact neonwrightref03_Berger.mono _ _ _)
      | (with_reducible exact neonwrightref03_Decode.mono _ _ _)
      | (with_reducible exact LeO.refl _)
      | (with_reducible exact LeO.none _)
      | (with_reducible refine LeO.ite ?_ ?_)
      | (with_reducible refine LeO.bind ?_ (fun _ => ?_))
      | exact ih0 _ _ _
      | exact neonwrightlaw03_alive.mono _
      | exact neonwrightref03_Berger.mono _ _ _
      | exact neonwrightref03_Decode.mono _ _ _
      | exact LeO.none _
      | refine LeO.ite ?_ ?_
      | refine LeO.bind ?_ (fun _ => ?_)
set_option maxHeartbeats 8000000 in
set_option maxRecDepth 100000 in
theorem neonwrightlaw03_CodeBerger.calls (k : Nat) (a0 : Int) (a1 : Int) (a2 : Int) (r : Bool) (w : World) (h : neonwrightlaw03_CodeBerger.f k a0 a1 a2 = some r) :
    Calls Try.prog 4 #[.int .i64 a0, .int .i64 a1, .int .i64 a2] w fun e w' => e = .returned (.bool r) ∧ Below w.heap.size w w' := by
  have HB := Aside0.mk (Below.refl w.heap.size w)
  have H : ((code_Berger.f a0 a1).bind fun bt198 => ((neonwrightref03_Berger.f k a0 a1).bind fun bt200 => (if bt198.1 = bt200.1 then (neonwrightlaw03_CodeBerger.j0 k a0 a2 (bt198.2 != bt200.2)) else (neonwrightlaw03_CodeBerger.j0 k a0 a2 true)))) = some r := h
  clear h
  replace H := Option.bind_eq_some_iff.mp H
  obtain ⟨⟨t198, t199⟩, A40, H⟩ := H
  replace H : ((neonwrightref03_Berger.f k a0 a1).bind fun bt200 => (if t198 = bt200.1 then (neonwrightlaw03_CodeBerger.j0 k a0 a2 (t199 != bt200.2)) else (neonwrightlaw03_CodeBerger.j0 k a0 a2 true))) = some r := H
  have A4 := Aside0.mk A40
  clear A40
  replace H := Option.bind_eq_some_iff.mp H
  obtain ⟨⟨t200, t201⟩, A50, H⟩ := H
  replace H : (if t198 = t200 then (neonwrightlaw03_CodeBerger.j0 k a0 a2 (t199 != t201)) else (neonwrightlaw03_CodeBerger.j0 k a0 a2 true)) = some r := H
  have A5 := Aside0.mk A50
  clear A50
  have HC6 := Aside0.mk H
  clear H
  go_enter Try.func4, Try.ntmps4
  go_upto_region 3 with (first | ((with_reducible refine gate_callee (f := 19) rfl ?_); refine goesL_ (some 18) rfl rfl Try.func19 (by kernel_rfl) rfl #[.int .i64 a0, .int .i64 a1] rfl (by (try simp only [List.map_toArray, List.map_cons, List.map_nil]); first | done | rfl | (simp only [List.length_drop, List.length_take]; rfl)) ?_; (with_reducible refine (code_Berger.calls a0 a1 t198 t199 _ A4.out).mono ?_); rintro e w' ⟨rfl, ⟨nd, rfl⟩⟩; refine ⟨_, rfl, ?_⟩) | ((with_reducible refine gate_callee (f := 20) rfl ?_); refine goesL_ (some 24) rfl rfl Try.func20 (by kernel_rfl) rfl #[.int .i64 a0, .int .i64 a1] rfl (by (try simp only [List.map_toArray, List.map_cons, List.map_nil]); first | done | rfl | (simp only [List.length_drop, List.length_take]; rfl)) ?_; (with_reducible refine (neonwrightref03_Berger.calls k a0 a1 t200 t201 _ A5.out).mono ?_); rintro e w' ⟨rfl, ⟨nd, rfl⟩⟩; refine ⟨_, rfl, ?_⟩))
  (try simp only [Act.put, List.setIfInBounds_toArray, List.set_cons_zero, List.set_cons_succ])
  go_cut [34] (fun v34 wc => ∃ (kq : Nat) (x34_5 : Bool), v34 = .bool x34_5 ∧ Aside0 (neonwrightlaw03_CodeBerger.j0 kq a0 a2 x34_5 = some r) ∧ Aside0 (kq ≤ k) ∧ Aside0 (Below w.heap.size w wc))
  case first =>
    have H := HC6.out
    clear HC6
    by_cases c7 : t198 = t200
    · rw [if_pos c7] at H
      have c7b0 : (t198 == t200) = true := beq_iff_eq.mpr c7
      have c7b1 : (t198 != t200) = false := bne_eq_false_iff_eq.mpr c7
      clear c7
      (first | rw [c7b0] | (simp only [i64_w, i32_w]; rw [c7b0]) | skip)
      have H' := Aside0.mk H
      clear H
      go_wp2
      go_meet
      case rel => exact ⟨_, ((t199 != t201)), (by first | rfl | (simp; done) | (simp [*]; done)), H', ⟨by first | omega | exact Nat.le_refl _⟩, ⟨by repeat (first | (with_reducible first | exact HB.out | apply below_alloc | apply pw_below_drewN | apply below_drew1) | exact HB.out)⟩⟩
    · rw [if_neg c7] at H
      have c7b0 : (t198 == t200) = false := beq_eq_false_iff_ne.mpr c7
      have c7b1 : (t198 != t200) = true := bne_iff_ne.mpr c7
      (first | rw [c7b0] | (simp only [i64_w, i32_w]; rw [c7b0]) | skip)
      have H' := Aside0.mk H
      clear H
      go_wp2
      go_meet
      case rel => exact ⟨_, (true), (by first | rfl | (simp; done) | (simp [*]; done)), H', ⟨by first | omega | exact Nat.le_refl _⟩, ⟨by repeat (first | (with_reducible first | exact HB.out | apply below_alloc | apply pw_below_drewN | apply below_drew1) | exact HB.out)⟩⟩
  case rest =>
    clear HC6
    try clear c1
    try clear c2
    try clear p2
    try clear c4
    try clear c7
    try clear c7b0
    try clear c7b1
    obtain ⟨kq, x34_5, rfl, HA, HJ5, HB⟩ := hcut
    cases kq with
    | zero => exact absurd HA.out (by simp [neonwrightlaw03_CodeBerger.j0])
    | succ kj5 =>
      have H := HA.out
      clear HA
      simp only [neonwrightlaw03_CodeBerger.j0] at H
      by_cases c8 : x34_5 = true
      · subst c8
        have H1 : (some false) = some r := by rw [if_pos rfl] at H; exact H
        clear H
        have H := H1
        clear H1
        obtain rfl := Option.some.inj H
        go_wp2
        go_ret
        exact ⟨by first | rfl | (simp [errW_none, errW_some] <;> rfl) | (simp [*, errW_none, errW_some] <;> rfl), by repeat (first | (with_reducible first | exact HB.out | apply below_alloc | apply pw_below_drewN | apply below_drew1) | exact HB.out)⟩
      · replace c8 := Bool.eq_false_iff.mpr c8
        subst c8
        have H1 : ((code_Decode.f a0 a2).bind fun bt202 => ((neonwrightref03_Decode.f kj5 a0 a2).bind fun bt205 => (if bt202.1 = bt205.1 then (if (bt202.2.1 == bt205.2.1) = true then (if bt202.2.2 = bt205.2.2 then ((neonwrightlaw03_alive.f kj5).bind fun t208 => (some t208)) else (some false)) else (some false)) else (some false)))) = some r := by rw [if_neg (show ¬ (false = true) by decide)] at H; exact H
        clear H
        have H := H1
        clear H1
        replace H := Option.bind_eq_some_iff.mp H
        obtain ⟨⟨t202, t203, t204⟩, A90, H⟩ := H
        replace H : ((neonwrightref03_Decode.f kj5 a0 a2).bind fun bt205 => (if t202 = bt205.1 then (if (t203 == bt205.2.1) = true then (if t204 = bt205.2.2 then ((neonwrightlaw03_alive.f kj5).bind fun t208 => (some t208)) else (some false)) else (some false)) else (some false))) = some r := H
        have A9 := Aside0.mk A90
        clear A90
        replace H := Option.bind_eq_some_iff.mp H
        obtain ⟨⟨t205, t206, t207⟩, A100, H⟩ := H
        replace H : (if t202 = t205 then (if (t203 == t206) = true then (if t204 = t207 then ((neonwrightlaw03_alive.f kj5).bind fun t208 => (some t208)) else (some false)) else (some false)) else (some false)) = some r := H
        have A10 := Aside0.mk A100
        clear A100
        by_cases c11 : t202 = t205
        · rw [if_pos c11] at H
          have c11b0 : (t202 == t205) = true := beq_iff_eq.mpr c11
          have c11b1 : (t202 != t205) = false := bne_eq_false_iff_eq.mpr c11
          clear c11
          by_cases c12 : (t203 == t206) = true
          · rw [if_pos c12] at H
            have c12b0 : (t203 == t206) = true := c12
            (try (have c12b1 : decide (t203 = t206) = true := by simpa using c12))
            (try (have c12b2 : (t203 == t206) = true := by simpa using c12))
            clear c12
            by_cases c13 : t204 = t207
            · rw [if_pos c13] at H
              have c13b0 : (t204 == t207) = true := beq_iff_eq.mpr c13
              have c13b1 : (t204 != t207) = false := bne_eq_false_iff_eq.mpr c13
              clear c13
              replace H := Option.bind_eq_some_iff.mp H
              obtain ⟨t208, A140, H⟩ := H
              replace H : (some t208) = some r := H
              have A14 := Aside0.mk A140
              clear A140
              obtain rfl := Option.some.inj H
              go_wp2_with (first | ((with_reducible refine gate_callee (f := 21) rfl ?_); refine goesL_ (some 38) rfl rfl Try.func21 (by kernel_rfl) rfl #[.int .i64 a0, .int .i64 a2] rfl (by (try simp only [List.map_toArray, List.map_cons, List.map_nil]); first | done | rfl | (simp only [List.length_drop, List.length_take]; rfl)) ?_; (with_reducible refine (code_Decode.calls a0 a2 t202 t203 t204 _ A9.out).mono ?_); rintro e w' ⟨rfl, ⟨nd, rfl⟩⟩; refine ⟨_, rfl, ?_⟩) | ((with_reducible refine gate_callee (f := 22) rfl ?_); refine goesL_ (some 45) rfl rfl Try.func22 (by kernel_rfl) rfl #[.int .i64 a0, .int .i64 a2] rfl (by (try simp only [List.map_toArray, List.map_cons, List.map_nil]); first | done | rfl | (simp only [List.length_drop, List.length_take]; rfl)) ?_; (with_reducible refine (neonwrightref03_Decode.calls kj5 a0 a2 t205 t206 t207 _ A10.out).mono ?_); rintro e w' ⟨rfl, ⟨nd, rfl⟩⟩; refine ⟨_, rfl, ?_⟩) | (go_at_call 18; (with_reducible refine (neonwrightlaw03_alive.calls kj5  t208 _ A14.out).mono ?_); rintro e w15 ⟨rfl, hb⟩; have n0_ := Aside0.mk (below_step (by repeat (first | (with_reducible first | exact HB.out | apply below_alloc | apply pw_below_drewN | apply below_drew1) | exact HB.out)) hb); clear HB; have HB := n0_; clear n0_; (try clear hb); (try clear hb2); (try clear hk); (try clear hi)))
              go_ret
              exact ⟨by first | rfl | (simp [errW_none, errW_some] <;> rfl) | (simp [*, errW_none, errW_some] <;> rfl), by repeat (first | (with_reducible first | exact HB.out | apply below_alloc | apply pw_below_drewN | apply below_drew1) | exact HB.out)⟩
            · rw [if_neg c13] at H
              have c13b0 : (t204 == t207) = false := beq_eq_false_iff_ne.mpr c13
              have c13b1 : (t204 != t207) = true := bne_iff_ne.mpr c13
              obtain rfl := Option.some.inj H
              go_wp2_with (first | ((with_reducible refine gate_callee (f := 21) rfl ?_); refine goesL_ (some 38) rfl rfl Try.func21 (by kernel_rfl) rfl #[.int .i64 a0, .int .i64 a2] rfl (by (try simp only [List.map_toArray, List.map_cons, List.map_nil]); first | done | rfl | (simp only [List.length_drop, List.length_take]; rfl)) ?_; (with_reducible refine (code_Decode.calls a0 a2 t202 t203 t204 _ A9.out).mono ?_); rintro e w' ⟨rfl, ⟨nd, rfl⟩⟩; refine ⟨_, rfl, ?_⟩) | ((with_reducible refine gate_callee (f := 22) rfl ?_); refine goesL_ (some 45) rfl rfl Try.func22 (by kernel_rfl) rfl #[.int .i64 a0, .int .i64 a2] rfl (by (try simp only [List.map_toArray, List.map_cons, List.map_nil]); first | done | rfl | (simp only [List.length_drop, List.length_take]; rfl)) ?_; (with_reducible refine (neonwrightref03_Decode.calls kj5 a0 a2 t205 t206 t207 _ A10.out).mono ?_); rintro e w' ⟨rfl, ⟨nd, rfl⟩⟩; refine ⟨_, rfl, ?_⟩))
              go_ret
              exact ⟨by first | rfl | (simp [errW_none, errW_some] <;> rfl) | (simp [*, errW_none, errW_some] <;> rfl), by repeat (first | (with_reducible first | exact HB.out | apply below_alloc | apply pw_below_drewN | apply below_drew1) | exact HB.out)⟩
          · rw [if_neg c12] at H
            have c12b0 : (t203 == t206) = false := by simpa using c12
            (try (have c12b1 : decide (t203 = t206) = false := by simpa using c12))
            (try (have c12b2 : (t203 == t206) = false := by simpa using c12))
            (try (have c12b3 : ¬ (t203 = t206) := by simpa using c12))
            clear c12
            obtain rfl := Option.some.inj H
            go_wp2_with (first | ((with_reducible refine gate_callee (f := 21) rfl ?_); refine goesL_ (some 38) rfl rfl Try.func21 (by kernel_rfl) rfl #[.int .i64 a0, .int .i64 a2] rfl (by (try simp only [List.map_toArray, List.map_cons, List.map_nil]); first | done | rfl | (simp only [List.length_drop, List.length_take]; rfl)) ?_; (with_reducible refine (code_Decode.calls a0 a2 t202 t203 t204 _ A9.out).mono ?_); rintro e w' ⟨rfl, ⟨nd, rfl⟩⟩; refine ⟨_, rfl, ?_⟩) | ((with_reducible refine gate_callee (f := 22) rfl ?_); refine goesL_ (some 45) rfl rfl Try.func22 (by kernel_rfl) rfl #[.int .i64 a0, .int .i64 a2] rfl (by (try simp only [List.map_toArray, List.map_cons, List.map_nil]); first | done | rfl | (simp only [List.length_drop, List.length_take]; rfl)) ?_; (with_reducible refine (neonwrightref03_Decode.calls kj5 a0 a2 t205 t206 t207 _ A10.out).mono ?_); rintro e w' ⟨rfl, ⟨nd, rfl⟩⟩; refine ⟨_, rfl, ?_⟩))
            go_ret
            exact ⟨by first | rfl | (simp [errW_none, errW_some] <;> rfl) | (simp [*, errW_none, errW_some] <;> rfl), by repeat (first | (with_reducible first | exact HB.out | apply below_alloc | apply pw_below_drewN | apply below_drew1) | exact HB.out)⟩
        · rw [if_neg c11] at H
          have c11b0 : (t202 == t205) = false := beq_eq_false_iff_ne.mpr c11
          have c11b1 : (t202 != t205) = true := bne_iff_ne.mpr c11
          obtain rfl := Option.some.inj H
          go_wp2_with (first | ((with_reducible refine gate_callee (f := 21) rfl ?_); refine goesL_ (some 38) rfl rfl Try.func21 (by kernel_rfl) rfl #[.int .i64 a0, .int .i64 a2] rfl (by (try simp only [List.map_toArray, List.map_cons, List.map_nil]); first | done | rfl | (simp only [List.length_drop, List.length_take]; rfl)) ?_; (with_reducible refine (code_Decode.calls a0 a2 t202 t203 t204 _ A9.out).mono ?_); rintro e w' ⟨rfl, ⟨nd, rfl⟩⟩; refine ⟨_, rfl, ?_⟩) | ((with_reducible refine gate_callee (f := 22) rfl ?_); refine goesL_ (some 45) rfl rfl Try.func22 (by kernel_rfl) rfl #[.int .i64 a0, .int .i64 a2] rfl (by (try simp only [List.map_toArray, List.map_cons, List.map_nil]); first | done | rfl | (simp only [List.length_drop, List.length_take]; rfl)) ?_; (with_reducible refine (neonwrightref03_Decode.calls kj5 a0 a2 t205 t206 t207 _ A10.out).mono ?_); rintro e w' ⟨rfl, ⟨nd, rfl⟩⟩; refine ⟨_, rfl, ?_⟩))
          go_ret
          exact ⟨by first | rfl | (simp [errW_none, errW_some] <;> rfl) | (simp [*, errW_none, errW_some] <;> rfl), by repeat (first | (with_reducible first | exact HB.out | apply below_alloc | apply pw_below_drewN | apply below_drew1) | exact HB.out)⟩

/-- THE ONE PURE STATEMENT of neonwrightlaw03_CodeBerger: yours. -/
def neonwrightlaw03_CodeBerger.Pure : Prop := ∀ (a0 : Int) (a1 : Int) (a2 : Int), (Lit.int .i64 a0).wf = true → (Lit.int .i64 a1).wf = true → (Lit.int .i64 a2).wf = true → ∃ k, neonwrightlaw03_CodeBerger.f k a0 a1 a2 = some true
theorem neonwrightlaw03_CodeBerger.walk (P : neonwrightlaw03_CodeBerger.Pure) (a0 : Int) (a1 : Int) (a2 : Int) (w : World) (w0 : (Lit.int .i64 a0).wf = true) (w1 : (Lit.int .i64 a1).wf = true) (w2 : (Lit.int .i64 a2).wf = true) :
    Calls Try.prog 4 #[.int .i64 a0, .int .i64 a1, .int .i64 a2] w fun e w' => e = .returned (.bool true) ∧ Below w.heap.size w w' := by
  obtain ⟨k, h⟩ := P a0 a1 a2 w0 w1 w2
  refine (neonwrightlaw03_CodeBerger.calls k a0 a1 a2 true w h).mono ?_
  rintro e w' ⟨rfl, hd⟩
  exact ⟨rfl, hd⟩

end Go.Proofs.Ytgchhheajngbfaa.P
