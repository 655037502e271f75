/- Texts of this claim, merged by a program (shake.py): what the last theorem reaches of QAdd, QWord, QOuts, Pf68, Pf81, GateN4. -/
import Derived.Test.YtelfalicickelaaKGR11
import Derived.Test.YtelfalicickelaaKGR3
set_option linter.unusedSimpArgs false
set_option linter.unusedVariables false
namespace Go.Proofs.Ytelfalicickelaa.P
open Go.Lib Go.RowKit Go.Proofs.YtelfalicickelaaW.PrintWords Go.Proofs.YtelfalicickelaaW.PrintLast Go.Proofs.YtelfalicickelaaW.PrintMore Go.Proofs.Ytelfalicickelaa.Kit
def fI (F : Option Nat) : Int := match F with
  | none => -1
  | some f => (f : Int)
def putW (F : Option Nat) (i x M : Nat) : Nat := (match F with
  | none => x
  | some f => if f / 2 = i then (if f % 2 = 1 then 18446744073709551615 else 0) else x) &&& M
structure LAt (w : World) (g : Nat) (F : Option Nat) (l : List Nat) (W : World) : Prop where
  x : W.heap[w.heap.size]? = some (.cells #[.pointer (some ⟨g, 0, none⟩)] 67 (0, 0))
  f : W.heap[w.heap.size + 1]? = some (.cells #[.int .i64 (fI F)] 3 (0, 0))
  l : ∃ A c, W.heap[w.heap.size + 1 + 1]? = some (.cells #[.slice A l.length c] 72 (0, 0)) ∧ W.ownsRow (w.heap.size + 3) 74 1 (.slice A l.length c) l.length (nums .u64 (nI l))
  b : Below w.heap.size w W
theorem LAt.size {w W : World} {g : Nat} {F : Option Nat} {l : List Nat} (h : LAt w g F l W) : w.heap.size + 3 ≤ W.heap.size := by
  obtain ⟨A, c, h1, _⟩ := h.l
  have := (Array.getElem?_eq_some_iff.1 h1).1
  omega
theorem LAt.keep {w W W' : World} {g : Nat} {F : Option Nat} {l : List Nat} (h : LAt w g F l W) (hb : Below W.heap.size W W') : LAt w g F l W' := by
  have hs := h.size
  obtain ⟨A, c, h1, h2⟩ := h.l
  exact ⟨(hb.block _ (by omega)).trans h.x, (hb.block _ (by omega)).trans h.f, ⟨A, c, (hb.block _ (by omega)).trans h1, own_below h2 hb⟩, h.b.trans (hb.mono (by omega))⟩
theorem LAt.push {w W W9 : World} {g : Nat} {F : Option Nat} {l : List Nat} (h : LAt w g F l W) {A' : Option Addr} {c' n' x : Nat} (hb : Below (w.heap.size + 3) W W9) (hn : n' = (l ++ [x]).length)
    (hr : W9.ownsRow (w.heap.size + 3) 74 1 (.slice A' n' c') n' (nums .u64 (nI (l ++ [x])))) :
    LAt w g F (l ++ [x]) (W9.setCell ⟨w.heap.size + 1 + 1, 0, none⟩ (.slice A' n' c')) := by
  subst hn
  obtain ⟨Au, cu, h1, _⟩ := h.l
  have a1 := (hb.block (w.heap.size + 1 + 1) (by omega)).trans h1
  have hset : ∀ k, k ≠ w.heap.size + 1 + 1 → (W9.setCell ⟨w.heap.size + 1 + 1, 0, none⟩ (.slice A' (l ++ [x]).length c')).heap[k]? = W9.heap[k]? := fun k hk => by
    simp only [World.setCell, Array.getElem?_modify]
    rw [if_neg (fun e => hk e.symm)]
  refine ⟨(hset _ (by omega)).trans ((hb.block _ (by omega)).trans h.x), (hset _ (by omega)).trans ((hb.block _ (by omega)).trans h.f), ⟨A', c', ?_, hr.1, ?_⟩, (h.b.trans (hb.mono (by omega))).setCell (by show w.heap.size ≤ w.heap.size + 1 + 1; omega) _⟩
  · simp only [World.setCell, Array.getElem?_modify, if_true, a1, Option.map_some]
    rfl
  · rcases hr.2 with h3 | ⟨g', cap, cur, e1, e2, e3, e4⟩
    · exact .inl h3
    · exact .inr ⟨g', cap, cur, e1, e2, (hset g' (by omega)).trans e3, e4⟩
theorem LAt.cells {w W : World} {g : Nat} {F : Option Nat} {l : List Nat} (h : LAt w g F l W) :
    ∃ A c, W.cell? ⟨w.heap.size, 0, none⟩ = some (.pointer (some ⟨g, 0, none⟩)) ∧ W.cell? ⟨w.heap.size + 1, 0, none⟩ = some (.int .i64 (fI F)) ∧ W.cell? ⟨w.heap.size + 1 + 1, 0, none⟩ = some (.slice A l.length c) ∧ W.frozen? ⟨w.heap.size + 1 + 1, 0, none⟩ = false ∧ W.ownsRow (w.heap.size + 3) 74 1 (.slice A l.length c) l.length (nums .u64 (nI l)) := by
  obtain ⟨A, c, h1, h2⟩ := h.l
  refine ⟨A, c, blkc h.x 0 rfl, blkc h.f 0 rfl, blkc h1 0 rfl, ?_, h2⟩
  unfold World.frozen?
  rw [h1]
  rfl
theorem fI_none : fI none = -1 := rfl
theorem putW_none (i x M : Nat) : putW none i x M = x &&& M := rfl
theorem putW_other {f i : Nat} (x M : Nat) (h : f / 2 ≠ i) : putW (some f) i x M = x &&& M := by unfold putW; dsimp only; rw [if_neg h]
theorem putW_hit {f i : Nat} (x M : Nat) (h : f / 2 = i) : putW (some f) i x M = (if f % 2 = 1 then 18446744073709551615 else 0) &&& M := by unfold putW; dsimp only; rw [if_pos h]
theorem nI_snoc (l : List Nat) (x : Nat) : nI (l ++ [x]) = nI l ++ [(x : Int)] := by simp [nI]
theorem nums_snoc (k : IntKind) (l : List Int) (x : Int) : nums k (l ++ [x]) = nums k l ++ [.int k x] := by simp [nums]
theorem info_word : (Try.prog.info? 74).map (fun i => (i.zero, i.size, i.bytes)) = some (some (.int .u64 0), 1, 8) := by kernel_rfl
theorem one_word (k : IntKind) (x : Int) : ∀ u ∈ [Value.int k x], u.oneCell' = true := by
  intro u hu
  have hu2 := List.mem_singleton.1 hu
  subst hu2
  rfl
set_option maxHeartbeats 8000000
set_option maxRecDepth 100000
theorem all_lt {N : Nat} (hN : N ≤ 6) : 2 ^ 2 ^ N - 1 < 18446744073709551616 := by
  have : 2 ^ 2 ^ N ≤ 2 ^ 64 := Nat.pow_le_pow_right (by decide) (by
    have : 2 ^ N ≤ 2 ^ 6 := Nat.pow_le_pow_right (by decide) hN
    simpa using this)
  have h2 : 2 ^ 2 ^ N > 0 := Nat.two_pow_pos _
  omega
theorem add_none {w : World} {g N : Nat} {ls : List S40} {os : List Int}  (l : List Nat) (x : Nat) (W : World) (hC : CircAt w g N ls os) (hN : N ≤ 6) (hx : x < 18446744073709551616) (hl : l.length ≤ 22) (h : LAt w g none l W)  :
    Calls Try.prog 89 #[.int .u64 (x : Int), .pointer (some ⟨w.heap.size + 1, 0, none⟩), .pointer (some ⟨w.heap.size + 1 + 1, 0, none⟩), .pointer (some ⟨w.heap.size, 0, none⟩)] W fun e w' => e = .returned (.tuple #[]) ∧ LAt w g none (l ++ [putW none l.length x (2 ^ 2 ^ N - 1)]) w' := by
  have hM := all_lt hN
  have HA := Aside0.mk (fun W' (hb : Below w.heap.size w W') => all_calls (hC.keep hb) hN)
  obtain ⟨M, hMe⟩ : ∃ M, 2 ^ 2 ^ N - 1 = M := ⟨_, rfl⟩
  rw [hMe] at HA hM ⊢
  have HB := Aside0.mk h.b
  have HL := Aside0.mk h
  obtain ⟨Au, cu, l0, lf, l2, l3, l4⟩ := h.cells
  have HL4 := Aside0.mk l4
  have HL2 := Aside0.mk l2
  have HL3 := Aside0.mk l3
  rw [fI_none] at lf
  have hput : putW none l.length x M = x &&& M := putW_none _ _ _
  have hy : x < 18446744073709551616 := hx
  obtain ⟨i0, hi0, hz0, hz1, hz2⟩ := info_parts info_word
  have HI0 := Aside0.mk (And.intro hi0 (And.intro hz0 (And.intro hz1 hz2)))
  have HMx := Aside0.mk (show l.length + 1 ≤ maxLen by unfold maxLen; omega)
  have HMb := Aside0.mk (show (l.length + 1) * 8 ≤ 140737488355328 by omega)
  have HSz := Aside0.mk h.size
  have HLn := Aside0.mk (show l.length + 1 = (l ++ [x &&& M]).length by simp)
  have HTk := Aside0.mk (show nums .u64 (nI l) ++ [.int .u64 ((x &&& M : Nat) : Int)] = nums .u64 (nI (l ++ [x &&& M])) by rw [nI_snoc, nums_snoc])
  have HLt3 := Aside0.mk (show w.heap.size + 1 + 1 < w.heap.size + 3 by omega)
  rw [hput]
  have hand := andu64 (x) M hy hM
  have HAnd := Aside0.mk hand
  have k1 : ∀ n, (W.drewN n).cell? ⟨w.heap.size + 1 + 1, 0, none⟩ = some (.slice Au l.length cu) := fun _ => l2
  have k2 : ∀ n o, ((W.drewN n).alloc o).cell? ⟨w.heap.size + 1 + 1, 0, none⟩ = some (.slice Au l.length cu) := fun n o => pw_cell_below (below_alloc (Below.refl _ _) _) (k1 n)
  have k3 : ∀ n, (W.drewN n).cell? ⟨w.heap.size, 0, none⟩ = some (.pointer (some ⟨g, 0, none⟩)) := fun _ => l0
  have HBx := Aside0.mk (fun n => show Below W.heap.size W ((W.drewN n).alloc (.cells #[.int .u64 (Go.bits .and .u64 (x : Nat) (M : Nat))] 74)) from below_alloc (pw_below_drewN (Below.refl _ _) n) _)
  have HSx := Aside0.mk (fun n => show w.heap.size + 3 ≤ ((W.drewN n).alloc (.cells #[.int .u64 (Go.bits .and .u64 (x : Nat) (M : Nat))] 74)).heap.size by rw [World.size_alloc]; have := HSz.out; show _ ≤ W.heap.size + 1; omega)
  have HHs := Aside0.mk (fun n => show ((W.drewN n).alloc (.cells #[.int .u64 (Go.bits .and .u64 (x : Nat) (M : Nat))] 74)).heap.size = W.heap.size + 1 by rw [World.size_alloc]; rfl)
  clear hC hN hx hl h l3 l4 hi0 hz0 hz1 hz2 hput hM hMe hy hand
  go_enter Try.func89, Try.ntmps89
  go_wp2
  go_region_law (first | (refine gate_op (.call { callee := .value (.func 63), args := #[.tmp 20], argTypes := #[67] }) rfl ?_; go_simp; (first | go_at_call 63 | skip); (refine (HA.out _ (by repeat (first | exact HB.out | apply pw_below_drewN | apply below_drew1))).mono ?_); rintro e w2 ⟨rfl, ⟨nd, rfl⟩⟩) | ((refine gate_op (.call { callee := .builtin .append, args := #[.tmp 18, .tmp 23], argTypes := #[72, 72] }) rfl ?_); (refine step_append_lies _ rfl (.tmp 18) (.tmp 23) 72 rfl (w.heap.size + 3) 74 i0 (.int .u64 0) 1 8 Try.underlying72 HI0.out.1 HI0.out.2.1 HI0.out.2.2.1 HI0.out.2.2.2 rfl Nat.one_pos (.slice Au l.length cu) l.length (nums .u64 (nI l)) rfl (own_below HL4.out (HBx.out _)) ⟨W.heap.size, 0, none⟩ 1 1 [.int .u64 (Go.bits .and .u64 (x : Nat) (M : Nat))] rfl rfl (news_one (cell_new (W.drewN (1 + nd)) #[.int .u64 (Go.bits .and .u64 (x : Nat) (M : Nat))] 74 0 rfl)) (one_word .u64 _) Nat.one_pos HMx.out HMb.out (HSx.out _) (W.heap.size + 1) (HHs.out _) ?_); intro g9 cap9 w9 hown9 hgrow9 hl9 hlt9; rw [HAnd.out, HTk.out] at hown9; have HR9 := Aside0.mk hown9; have HB9 := Aside0.mk (show Below (w.heap.size + 3) W w9 from pw_below_grown (Below.mono (HBx.out _) HSz.out) _ (HSx.out _) hgrow9 (own_block HL4.out)); have l9 := (HB9.out.cell (p := ⟨w.heap.size + 1 + 1, 0, none⟩) HLt3.out).trans HL2.out; have f9 := (frozen_at HB9.out (p := ⟨w.heap.size + 1 + 1, 0, none⟩) HLt3.out).trans HL3.out; clear hown9 hgrow9 hl9 hlt9))
  all_goals
    go_end0
    exact ⟨rfl, HL.out.push HB9.out HLn.out HR9.out⟩
theorem add_other {w : World} {g N : Nat} {ls : List S40} {os : List Int} (f : Nat) (l : List Nat) (x : Nat) (W : World) (hC : CircAt w g N ls os) (hN : N ≤ 6) (hx : x < 18446744073709551616) (hl : l.length ≤ 22) (h : LAt w g (some f) l W) (hF : f / 2 ≠ l.length) (hf : f ≤ 100) :
    Calls Try.prog 89 #[.int .u64 (x : Int), .pointer (some ⟨w.heap.size + 1, 0, none⟩), .pointer (some ⟨w.heap.size + 1 + 1, 0, none⟩), .pointer (some ⟨w.heap.size, 0, none⟩)] W fun e w' => e = .returned (.tuple #[]) ∧ LAt w g (some f) (l ++ [putW (some f) l.length x (2 ^ 2 ^ N - 1)]) w' := by
  have hM := all_lt hN
  have HA := Aside0.mk (fun W' (hb : Below w.heap.size w W') => all_calls (hC.keep hb) hN)
  obtain ⟨M, hMe⟩ : ∃ M, 2 ^ 2 ^ N - 1 = M := ⟨_, rfl⟩
  rw [hMe] at HA hM ⊢
  have HB := Aside0.mk h.b
  have HL := Aside0.mk h
  obtain ⟨Au, cu, l0, lf, l2, l3, l4⟩ := h.cells
  have HL4 := Aside0.mk l4
  have HL2 := Aside0.mk l2
  have HL3 := Aside0.mk l3
  rw [show fI (some f) = (f : Int) from rfl] at lf
  have hput : putW (some f) l.length x M = x &&& M := putW_other _ _ hF
  have hy : x < 18446744073709551616 := hx
  have e1 : ((f : Int) != -1) = true := bne_iff_ne.2 (by omega)
  have e3 : (wrap64 ((f : Int) / 2) == (l.length : Int)) = false := by rw [w64 (by omega) (by omega)]; exact beq_eq_false_iff_ne.2 (by omega)
  clear hF hf
  obtain ⟨i0, hi0, hz0, hz1, hz2⟩ := info_parts info_word
  have HI0 := Aside0.mk (And.intro hi0 (And.intro hz0 (And.intro hz1 hz2)))
  have HMx := Aside0.mk (show l.length + 1 ≤ maxLen by unfold maxLen; omega)
  have HMb := Aside0.mk (show (l.length + 1) * 8 ≤ 140737488355328 by omega)
  have HSz := Aside0.mk h.size
  have HLn := Aside0.mk (show l.length + 1 = (l ++ [x &&& M]).length by simp)
  have HTk := Aside0.mk (show nums .u64 (nI l) ++ [.int .u64 ((x &&& M : Nat) : Int)] = nums .u64 (nI (l ++ [x &&& M])) by rw [nI_snoc, nums_snoc])
  have HLt3 := Aside0.mk (show w.heap.size + 1 + 1 < w.heap.size + 3 by omega)
  rw [hput]
  have hand := andu64 (x) M hy hM
  have HAnd := Aside0.mk hand
  have k1 : ∀ n, (W.drewN n).cell? ⟨w.heap.size + 1 + 1, 0, none⟩ = some (.slice Au l.length cu) := fun _ => l2
  have k2 : ∀ n o, ((W.drewN n).alloc o).cell? ⟨w.heap.size + 1 + 1, 0, none⟩ = some (.slice Au l.length cu) := fun n o => pw_cell_below (below_alloc (Below.refl _ _) _) (k1 n)
  have k3 : ∀ n, (W.drewN n).cell? ⟨w.heap.size, 0, none⟩ = some (.pointer (some ⟨g, 0, none⟩)) := fun _ => l0
  have HBx := Aside0.mk (fun n => show Below W.heap.size W ((W.drewN n).alloc (.cells #[.int .u64 (Go.bits .and .u64 (x : Nat) (M : Nat))] 74)) from below_alloc (pw_below_drewN (Below.refl _ _) n) _)
  have HSx := Aside0.mk (fun n => show w.heap.size + 3 ≤ ((W.drewN n).alloc (.cells #[.int .u64 (Go.bits .and .u64 (x : Nat) (M : Nat))] 74)).heap.size by rw [World.size_alloc]; have := HSz.out; show _ ≤ W.heap.size + 1; omega)
  have HHs := Aside0.mk (fun n => show ((W.drewN n).alloc (.cells #[.int .u64 (Go.bits .and .u64 (x : Nat) (M : Nat))] 74)).heap.size = W.heap.size + 1 by rw [World.size_alloc]; rfl)
  clear hC hN hx hl h l3 l4 hi0 hz0 hz1 hz2 hput hM hMe hy hand
  go_enter Try.func89, Try.ntmps89
  go_wp2
  go_region_law (first | (refine gate_op (.call { callee := .value (.func 63), args := #[.tmp 20], argTypes := #[67] }) rfl ?_; go_simp; (first | go_at_call 63 | skip); (refine (HA.out _ (by repeat (first | exact HB.out | apply pw_below_drewN | apply below_drew1))).mono ?_); rintro e w2 ⟨rfl, ⟨nd, rfl⟩⟩) | ((refine gate_op (.call { callee := .builtin .append, args := #[.tmp 18, .tmp 23], argTypes := #[72, 72] }) rfl ?_); (refine step_append_lies _ rfl (.tmp 18) (.tmp 23) 72 rfl (w.heap.size + 3) 74 i0 (.int .u64 0) 1 8 Try.underlying72 HI0.out.1 HI0.out.2.1 HI0.out.2.2.1 HI0.out.2.2.2 rfl Nat.one_pos (.slice Au l.length cu) l.length (nums .u64 (nI l)) rfl (own_below HL4.out (HBx.out _)) ⟨W.heap.size, 0, none⟩ 1 1 [.int .u64 (Go.bits .and .u64 (x : Nat) (M : Nat))] rfl rfl (news_one (cell_new (W.drewN (1 + nd)) #[.int .u64 (Go.bits .and .u64 (x : Nat) (M : Nat))] 74 0 rfl)) (one_word .u64 _) Nat.one_pos HMx.out HMb.out (HSx.out _) (W.heap.size + 1) (HHs.out _) ?_); intro g9 cap9 w9 hown9 hgrow9 hl9 hlt9; rw [HAnd.out, HTk.out] at hown9; have HR9 := Aside0.mk hown9; have HB9 := Aside0.mk (show Below (w.heap.size + 3) W w9 from pw_below_grown (Below.mono (HBx.out _) HSz.out) _ (HSx.out _) hgrow9 (own_block HL4.out)); have l9 := (HB9.out.cell (p := ⟨w.heap.size + 1 + 1, 0, none⟩) HLt3.out).trans HL2.out; have f9 := (frozen_at HB9.out (p := ⟨w.heap.size + 1 + 1, 0, none⟩) HLt3.out).trans HL3.out; clear hown9 hgrow9 hl9 hlt9))
  all_goals
    go_end0
    exact ⟨rfl, HL.out.push HB9.out HLn.out HR9.out⟩
theorem add_zero {w : World} {g N : Nat} {ls : List S40} {os : List Int} (f : Nat) (l : List Nat) (x : Nat) (W : World) (hC : CircAt w g N ls os) (hN : N ≤ 6) (hx : x < 18446744073709551616) (hl : l.length ≤ 22) (h : LAt w g (some f) l W) (hF : f / 2 = l.length) (hf : f ≤ 100) (h2 : f % 2 = 0) :
    Calls Try.prog 89 #[.int .u64 (x : Int), .pointer (some ⟨w.heap.size + 1, 0, none⟩), .pointer (some ⟨w.heap.size + 1 + 1, 0, none⟩), .pointer (some ⟨w.heap.size, 0, none⟩)] W fun e w' => e = .returned (.tuple #[]) ∧ LAt w g (some f) (l ++ [putW (some f) l.length x (2 ^ 2 ^ N - 1)]) w' := by
  have hM := all_lt hN
  have HA := Aside0.mk (fun W' (hb : Below w.heap.size w W') => all_calls (hC.keep hb) hN)
  obtain ⟨M, hMe⟩ : ∃ M, 2 ^ 2 ^ N - 1 = M := ⟨_, rfl⟩
  rw [hMe] at HA hM ⊢
  have HB := Aside0.mk h.b
  have HL := Aside0.mk h
  obtain ⟨Au, cu, l0, lf, l2, l3, l4⟩ := h.cells
  have HL4 := Aside0.mk l4
  have HL2 := Aside0.mk l2
  have HL3 := Aside0.mk l3
  rw [show fI (some f) = (f : Int) from rfl] at lf
  have hput : putW (some f) l.length x M = 0 &&& M := by rw [putW_hit _ _ hF, if_neg (by omega)]
  have hy : (0 : Nat) < 18446744073709551616 := by decide
  have e1 : ((f : Int) != -1) = true := bne_iff_ne.2 (by omega)
  have e3 : (wrap64 ((f : Int) / 2) == (l.length : Int)) = true := by rw [w64 (by omega) (by omega)]; exact beq_iff_eq.2 (by omega)
  have e4 : IntKind.u64.wrap (-((f : Int) % 2)) = 0 := by rw [show (f : Int) % 2 = 0 by omega]; decide
  clear hF hf h2
  obtain ⟨i0, hi0, hz0, hz1, hz2⟩ := info_parts info_word
  have HI0 := Aside0.mk (And.intro hi0 (And.intro hz0 (And.intro hz1 hz2)))
  have HMx := Aside0.mk (show l.length + 1 ≤ maxLen by unfold maxLen; omega)
  have HMb := Aside0.mk (show (l.length + 1) * 8 ≤ 140737488355328 by omega)
  have HSz := Aside0.mk h.size
  have HLn := Aside0.mk (show l.length + 1 = (l ++ [0 &&& M]).length by simp)
  have HTk := Aside0.mk (show nums .u64 (nI l) ++ [.int .u64 ((0 &&& M : Nat) : Int)] = nums .u64 (nI (l ++ [0 &&& M])) by rw [nI_snoc, nums_snoc])
  have HLt3 := Aside0.mk (show w.heap.size + 1 + 1 < w.heap.size + 3 by omega)
  rw [hput]
  have hand := andu64 (0) M hy hM
  have HAnd := Aside0.mk hand
  have k1 : ∀ n, (W.drewN n).cell? ⟨w.heap.size + 1 + 1, 0, none⟩ = some (.slice Au l.length cu) := fun _ => l2
  have k2 : ∀ n o, ((W.drewN n).alloc o).cell? ⟨w.heap.size + 1 + 1, 0, none⟩ = some (.slice Au l.length cu) := fun n o => pw_cell_below (below_alloc (Below.refl _ _) _) (k1 n)
  have k3 : ∀ n, (W.drewN n).cell? ⟨w.heap.size, 0, none⟩ = some (.pointer (some ⟨g, 0, none⟩)) := fun _ => l0
  have HBx := Aside0.mk (fun n => show Below W.heap.size W ((W.drewN n).alloc (.cells #[.int .u64 (Go.bits .and .u64 (0 : Nat) (M : Nat))] 74)) from below_alloc (pw_below_drewN (Below.refl _ _) n) _)
  have HSx := Aside0.mk (fun n => show w.heap.size + 3 ≤ ((W.drewN n).alloc (.cells #[.int .u64 (Go.bits .and .u64 (0 : Nat) (M : Nat))] 74)).heap.size by rw [World.size_alloc]; have := HSz.out; show _ ≤ W.heap.size + 1; omega)
  have HHs := Aside0.mk (fun n => show ((W.drewN n).alloc (.cells #[.int .u64 (Go.bits .and .u64 (0 : Nat) (M : Nat))] 74)).heap.size = W.heap.size + 1 by rw [World.size_alloc]; rfl)
  clear hC hN hx hl h l3 l4 hi0 hz0 hz1 hz2 hput hM hMe hy hand
  go_enter Try.func89, Try.ntmps89
  go_wp2
  go_region_law (first | (refine gate_op (.call { callee := .value (.func 63), args := #[.tmp 20], argTypes := #[67] }) rfl ?_; go_simp; (first | go_at_call 63 | skip); (refine (HA.out _ (by repeat (first | exact HB.out | apply pw_below_drewN | apply below_drew1))).mono ?_); rintro e w2 ⟨rfl, ⟨nd, rfl⟩⟩) | ((refine gate_op (.call { callee := .builtin .append, args := #[.tmp 18, .tmp 23], argTypes := #[72, 72] }) rfl ?_); (refine step_append_lies _ rfl (.tmp 18) (.tmp 23) 72 rfl (w.heap.size + 3) 74 i0 (.int .u64 0) 1 8 Try.underlying72 HI0.out.1 HI0.out.2.1 HI0.out.2.2.1 HI0.out.2.2.2 rfl Nat.one_pos (.slice Au l.length cu) l.length (nums .u64 (nI l)) rfl (own_below HL4.out (HBx.out _)) ⟨W.heap.size, 0, none⟩ 1 1 [.int .u64 (Go.bits .and .u64 (0 : Nat) (M : Nat))] rfl rfl (news_one (cell_new (W.drewN (1 + nd)) #[.int .u64 (Go.bits .and .u64 (0 : Nat) (M : Nat))] 74 0 rfl)) (one_word .u64 _) Nat.one_pos HMx.out HMb.out (HSx.out _) (W.heap.size + 1) (HHs.out _) ?_); intro g9 cap9 w9 hown9 hgrow9 hl9 hlt9; rw [HAnd.out, HTk.out] at hown9; have HR9 := Aside0.mk hown9; have HB9 := Aside0.mk (show Below (w.heap.size + 3) W w9 from pw_below_grown (Below.mono (HBx.out _) HSz.out) _ (HSx.out _) hgrow9 (own_block HL4.out)); have l9 := (HB9.out.cell (p := ⟨w.heap.size + 1 + 1, 0, none⟩) HLt3.out).trans HL2.out; have f9 := (frozen_at HB9.out (p := ⟨w.heap.size + 1 + 1, 0, none⟩) HLt3.out).trans HL3.out; clear hown9 hgrow9 hl9 hlt9))
  all_goals
    go_end0
    exact ⟨rfl, HL.out.push HB9.out HLn.out HR9.out⟩
theorem add_one {w : World} {g N : Nat} {ls : List S40} {os : List Int} (f : Nat) (l : List Nat) (x : Nat) (W : World) (hC : CircAt w g N ls os) (hN : N ≤ 6) (hx : x < 18446744073709551616) (hl : l.length ≤ 22) (h : LAt w g (some f) l W) (hF : f / 2 = l.length) (hf : f ≤ 100) (h2 : f % 2 = 1) :
    Calls Try.prog 89 #[.int .u64 (x : Int), .pointer (some ⟨w.heap.size + 1, 0, none⟩), .pointer (some ⟨w.heap.size + 1 + 1, 0, none⟩), .pointer (some ⟨w.heap.size, 0, none⟩)] W fun e w' => e = .returned (.tuple #[]) ∧ LAt w g (some f) (l ++ [putW (some f) l.length x (2 ^ 2 ^ N - 1)]) w' := by
  have hM := all_lt hN
  have HA := Aside0.mk (fun W' (hb : Below w.heap.size w W') => all_calls (hC.keep hb) hN)
  obtain ⟨M, hMe⟩ : ∃ M, 2 ^ 2 ^ N - 1 = M := ⟨_, rfl⟩
  rw [hMe] at HA hM ⊢
  have HB := Aside0.mk h.b
  have HL := Aside0.mk h
  obtain ⟨Au, cu, l0, lf, l2, l3, l4⟩ := h.cells
  have HL4 := Aside0.mk l4
  have HL2 := Aside0.mk l2
  have HL3 := Aside0.mk l3
  rw [show fI (some f) = (f : Int) from rfl] at lf
  have hput : putW (some f) l.length x M = 18446744073709551615 &&& M := by rw [putW_hit _ _ hF, if_pos h2]
  have hy : (18446744073709551615 : Nat) < 18446744073709551616 := by decide
  have e1 : ((f : Int) != -1) = true := bne_iff_ne.2 (by omega)
  have e3 : (wrap64 ((f : Int) / 2) == (l.length : Int)) = true := by rw [w64 (by omega) (by omega)]; exact beq_iff_eq.2 (by omega)
  have e4 : IntKind.u64.wrap (-((f : Int) % 2)) = 18446744073709551615 := by rw [show (f : Int) % 2 = 1 by omega]; decide
  clear hF hf h2
  obtain ⟨i0, hi0, hz0, hz1, hz2⟩ := info_parts info_word
  have HI0 := Aside0.mk (And.intro hi0 (And.intro hz0 (And.intro hz1 hz2)))
  have HMx := Aside0.mk (show l.length + 1 ≤ maxLen by unfold maxLen; omega)
  have HMb := Aside0.mk (show (l.length + 1) * 8 ≤ 140737488355328 by omega)
  have HSz := Aside0.mk h.size
  have HLn := Aside0.mk (show l.length + 1 = (l ++ [18446744073709551615 &&& M]).length by simp)
  have HTk := Aside0.mk (show nums .u64 (nI l) ++ [.int .u64 ((18446744073709551615 &&& M : Nat) : Int)] = nums .u64 (nI (l ++ [18446744073709551615 &&& M])) by rw [nI_snoc, nums_snoc])
  have HLt3 := Aside0.mk (show w.heap.size + 1 + 1 < w.heap.size + 3 by omega)
  rw [hput]
  have hand := andu64 (18446744073709551615) M hy hM
  have HAnd := Aside0.mk hand
  have k1 : ∀ n, (W.drewN n).cell? ⟨w.heap.size + 1 + 1, 0, none⟩ = some (.slice Au l.length cu) := fun _ => l2
  have k2 : ∀ n o, ((W.drewN n).alloc o).cell? ⟨w.heap.size + 1 + 1, 0, none⟩ = some (.slice Au l.length cu) := fun n o => pw_cell_below (below_alloc (Below.refl _ _) _) (k1 n)
  have k3 : ∀ n, (W.drewN n).cell? ⟨w.heap.size, 0, none⟩ = some (.pointer (some ⟨g, 0, none⟩)) := fun _ => l0
  have HBx := Aside0.mk (fun n => show Below W.heap.size W ((W.drewN n).alloc (.cells #[.int .u64 (Go.bits .and .u64 (18446744073709551615 : Nat) (M : Nat))] 74)) from below_alloc (pw_below_drewN (Below.refl _ _) n) _)
  have HSx := Aside0.mk (fun n => show w.heap.size + 3 ≤ ((W.drewN n).alloc (.cells #[.int .u64 (Go.bits .and .u64 (18446744073709551615 : Nat) (M : Nat))] 74)).heap.size by rw [World.size_alloc]; have := HSz.out; show _ ≤ W.heap.size + 1; omega)
  have HHs := Aside0.mk (fun n => show ((W.drewN n).alloc (.cells #[.int .u64 (Go.bits .and .u64 (18446744073709551615 : Nat) (M : Nat))] 74)).heap.size = W.heap.size + 1 by rw [World.size_alloc]; rfl)
  clear hC hN hx hl h l3 l4 hi0 hz0 hz1 hz2 hput hM hMe hy hand
  go_enter Try.func89, Try.ntmps89
  go_wp2
  go_region_law (first | (refine gate_op (.call { callee := .value (.func 63), args := #[.tmp 20], argTypes := #[67] }) rfl ?_; go_simp; (first | go_at_call 63 | skip); (refine (HA.out _ (by repeat (first | exact HB.out | apply pw_below_drewN | apply below_drew1))).mono ?_); rintro e w2 ⟨rfl, ⟨nd, rfl⟩⟩) | ((refine gate_op (.call { callee := .builtin .append, args := #[.tmp 18, .tmp 23], argTypes := #[72, 72] }) rfl ?_); (refine step_append_lies _ rfl (.tmp 18) (.tmp 23) 72 rfl (w.heap.size + 3) 74 i0 (.int .u64 0) 1 8 Try.underlying72 HI0.out.1 HI0.out.2.1 HI0.out.2.2.1 HI0.out.2.2.2 rfl Nat.one_pos (.slice Au l.length cu) l.length (nums .u64 (nI l)) rfl (own_below HL4.out (HBx.out _)) ⟨W.heap.size, 0, none⟩ 1 1 [.int .u64 (Go.bits .and .u64 (18446744073709551615 : Nat) (M : Nat))] rfl rfl (news_one (cell_new (W.drewN (1 + nd)) #[.int .u64 (Go.bits .and .u64 (18446744073709551615 : Nat) (M : Nat))] 74 0 rfl)) (one_word .u64 _) Nat.one_pos HMx.out HMb.out (HSx.out _) (W.heap.size + 1) (HHs.out _) ?_); intro g9 cap9 w9 hown9 hgrow9 hl9 hlt9; rw [HAnd.out, HTk.out] at hown9; have HR9 := Aside0.mk hown9; have HB9 := Aside0.mk (show Below (w.heap.size + 3) W w9 from pw_below_grown (Below.mono (HBx.out _) HSz.out) _ (HSx.out _) hgrow9 (own_block HL4.out)); have l9 := (HB9.out.cell (p := ⟨w.heap.size + 1 + 1, 0, none⟩) HLt3.out).trans HL2.out; have f9 := (frozen_at HB9.out (p := ⟨w.heap.size + 1 + 1, 0, none⟩) HLt3.out).trans HL3.out; clear hown9 hgrow9 hl9 hlt9))
  all_goals
    go_end0
    exact ⟨rfl, HL.out.push HB9.out HLn.out HR9.out⟩
theorem add_calls {w : World} {g N : Nat} {ls : List S40} {os : List Int} (F : Option Nat) (l : List Nat) (x : Nat) (W : World) (hC : CircAt w g N ls os) (hN : N ≤ 6) (hx : x < 18446744073709551616) (hl : l.length ≤ 22) (hF : ∀ f, F = some f → f ≤ 100) (h : LAt w g F l W) :
    Calls Try.prog 89 #[.int .u64 (x : Int), .pointer (some ⟨w.heap.size + 1, 0, none⟩), .pointer (some ⟨w.heap.size + 1 + 1, 0, none⟩), .pointer (some ⟨w.heap.size, 0, none⟩)] W fun e w' => e = .returned (.tuple #[]) ∧ LAt w g F (l ++ [putW F l.length x (2 ^ 2 ^ N - 1)]) w' := by
  cases F with
  | none => exact add_none l x W hC hN hx hl h
  | some f =>
    have hf := hF f rfl
    by_cases h1 : f / 2 = l.length
    · rcases Nat.mod_two_eq_zero_or_one f with h2 | h2
      · exact add_zero f l x W hC hN hx hl h h1 hf h2
      · exact add_one f l x W hC hN hx hl h h1 hf h2
    · exact add_other f l x W hC hN hx hl h h1 hf
end Go.Proofs.Ytelfalicickelaa.P
set_option linter.unusedSimpArgs false
set_option linter.unusedVariables false
namespace Go.Proofs.Ytelfalicickelaa.P
open Go.Lib Go.RowKit Go.Proofs.YtelfalicickelaaW.PrintWords Go.Proofs.YtelfalicickelaaW.PrintLast Go.Proofs.YtelfalicickelaaW.PrintMore Go.Proofs.Ytelfalicickelaa.Kit
def toG (s : S40) : GT.G := ⟨s.f0.toNat, s.f1.toNat, s.f2.toNat⟩
def toC (N : Nat) (ls : List S40) (os : List Int) : GT.C := ⟨N, ls.map toG, os.map Int.toNat⟩
theorem readsL_ok {N i : Nat} {k a b : Int} (h : (readsL k a b).any (badL (N + i)) = false) : (0 ≤ a ∧ a < ((N + i : Nat) : Int)) ∧ (k ≠ 5 → 0 ≤ b ∧ b < ((N + i : Nat) : Int)) := by
  unfold readsL at h
  by_cases hk : k = 5
  · rw [if_pos hk] at h
    simp [badL] at h
    exact ⟨by omega, fun e => absurd hk e⟩
  · rw [if_neg hk] at h
    simp [badL] at h
    exact ⟨by omega, fun _ => by omega⟩
theorem gate_nat {N i : Nat} {s : S40} (hN : 1 ≤ N) (h : gateOk N i s = true) : ∃ k a b : Nat, s = ⟨(k : Int), (a : Int), (b : Int)⟩ ∧ k ≤ 5 ∧ a < N + i ∧ b < N + i ∧ (k = 5 → b = 0) := by
  obtain ⟨k, a, b⟩ := s
  unfold gateOk at h
  rw [Bool.and_eq_true, Bool.and_eq_true, decide_eq_true_eq] at h
  obtain ⟨h1, h2, h3⟩ := h
  have h4 := readsL_ok (N := N) (i := i) (k := k) (a := a) (b := b) (by simpa using h3)
  simp at h1 h2
  by_cases hk : k = 5
  · have hb : b = 0 := h2.resolve_left (fun e => e hk)
    refine ⟨k.toNat, a.toNat, b.toNat, ?_, by omega, by omega, by omega, by omega⟩
    have e1 : ((k.toNat : Nat) : Int) = k := by omega
    have e2 : ((a.toNat : Nat) : Int) = a := by omega
    have e3 : ((b.toNat : Nat) : Int) = b := by omega
    rw [e1, e2, e3]
  · have hb := h4.2 hk
    refine ⟨k.toNat, a.toNat, b.toNat, ?_, by omega, by omega, by omega, by omega⟩
    have e1 : ((k.toNat : Nat) : Int) = k := by omega
    have e2 : ((a.toNat : Nat) : Int) = a := by omega
    have e3 : ((b.toNat : Nat) : Int) = b := by omega
    rw [e1, e2, e3]
theorem okC_gates {N : Nat} {ls : List S40} {os : List Int} (h : okC (N : Int) ls os = true) : gatesOk N ls = true ∧ os.any (badL (N + ls.length)) = false := by
  unfold okC at h
  rw [Bool.and_eq_true, Bool.and_eq_true, Int.toNat_natCast] at h
  exact ⟨h.2.1, by simpa using h.2.2⟩
theorem out_nat {N : Nat} {ls : List S40} {os : List Int} (h : okC (N : Int) ls os = true) {o : Int} (ho : o ∈ os) : 0 ≤ o ∧ o < ((N + ls.length : Nat) : Int) := by
  have h2 := (okC_gates h).2
  rw [List.any_eq_false] at h2
  have := h2 o ho
  simp [badL] at this
  omega
theorem okC_ok {N : Nat} {ls : List S40} {os : List Int} (h : okC (N : Int) ls os = true) : GT.Ok (toC N ls os) := by
  have hs := okC_small h
  refine ⟨by show 1 ≤ N; omega, by show N ≤ 6; omega, by show (List.map _ _).length ≤ 16; rw [List.length_map]; omega, by show 1 ≤ (List.map _ _).length; rw [List.length_map]; omega, by show (List.map _ _).length ≤ 4; rw [List.length_map]; omega, fun i hi => ?_, fun x hx => ?_⟩
  · have hi' : i < ls.length := by simpa [toC] using hi
    obtain ⟨k, a, b, e, h1, h2, h3, h4⟩ := gate_nat (by omega) (gatesOk_at (okC_gates h).1 hi')
    have e2 : (toC N ls os).gs[i] = ⟨k, a, b⟩ := by simp [toC, e, toG]
    rw [e2]
    exact ⟨h1, h2, h3, h4⟩
  · obtain ⟨o, ho, rfl⟩ := List.mem_map.1 hx
    have := out_nat h ho
    show o.toNat < N + (List.map _ _).length
    rw [List.length_map]
    omega
def inW (i v : Nat) : Nat := GT.num ((List.range v).map fun u => u.testBit i)
theorem inW_lt (i v : Nat) : inW i v < 2 ^ v := by
  have := GT.num_lt ((List.range v).map fun u => u.testBit i)
  simpa [inW] using this
theorem inW_succ (i v : Nat) : inW i (v + 1) = inW i v ||| (v / 2 ^ i % 2) * 2 ^ v := by
  have h1 : inW i (v + 1) = inW i v + (v.testBit i).toNat * 2 ^ v := by
    unfold inW
    rw [List.range_succ, List.map_append, List.map_cons, List.map_nil, GT.num_append]
    simp
  have h2 : (v.testBit i).toNat = v / 2 ^ i % 2 := by
    rw [Nat.testBit_eq_decide_div_mod_eq]
    rcases Nat.mod_two_eq_zero_or_one (v / 2 ^ i) with e | e <;> simp [e]
  rw [h1, h2]
  have h3 := Nat.two_pow_add_eq_or_of_lt (inW_lt i v) (v / 2 ^ i % 2)
  rw [Nat.mul_comm (2 ^ v), Nat.add_comm] at h3
  rw [h3, Nat.or_comm]
theorem ones_bit (v : Nat) (h : v < 64) : (18446744073709551615 : Nat).testBit v = true := by
  have : (18446744073709551615 : Nat) = 2 ^ 64 - 1 := by decide
  rw [this, Nat.testBit_two_pow_sub_one]
  simpa using h
theorem pow6 {N : Nat} (hN : N ≤ 6) : 2 ^ N ≤ 64 := by
  have : 2 ^ N ≤ 2 ^ 6 := Nat.pow_le_pow_right (by decide) hN
  simpa using this
theorem putW_bit {N : Nat} (hN : N ≤ 6) (F : Option Nat) (i x v : Nat) : (putW F i x (2 ^ 2 ^ N - 1)).testBit v = (decide (v < 2 ^ N) && GT.put F i (x.testBit v)) := by
  unfold putW
  rw [Nat.testBit_and, Nat.testBit_two_pow_sub_one, Bool.and_comm]
  by_cases hv : v < 2 ^ N
  · have h64 : v < 64 := Nat.lt_of_lt_of_le hv (pow6 hN)
    cases F with
    | none => rfl
    | some f =>
      dsimp only
      by_cases h1 : f / 2 = i
      · rw [if_pos h1, GT.put_pos _ h1]
        rcases Nat.mod_two_eq_zero_or_one f with e | e
        · rw [e]; simp
        · rw [e, if_pos rfl, ones_bit v h64]; simp
      · rw [if_neg h1, GT.put_neg _ h1]
  · simp [hv]
theorem wline_in {N : Nat} (hN : N ≤ 6) (ls : List S40) (os : List Int) (F : Option Nat) {j : Nat} (hj : j < N) : putW F j (inW j (2 ^ N)) (2 ^ 2 ^ N - 1) = GT.wline (toC N ls os) F j := by
  refine GT.nat_ext fun v => ?_
  rw [putW_bit hN]
  unfold GT.wline
  rw [GT.wd_bit]
  show _ = (decide (v < 2 ^ N) && (GT.vals (toC N ls os) F v).getD j false)
  rw [GT.vals_in (toC N ls os) F v hj]
  by_cases hv : v < 2 ^ N
  · unfold inW
    rw [GT.num_bit]
    simp [List.getD_eq_getElem?_getD, hv]
  · simp [hv]
def gwW (k x y : Nat) : Nat :=
  match k with
  | 0 => x &&& y
  | 1 => x ||| y
  | 2 => x ^^^ y
  | 3 => 18446744073709551615 ^^^ (x &&& y)
  | 4 => 18446744073709551615 ^^^ (x ||| y)
  | _ => 18446744073709551615 ^^^ x
theorem gwW_bit (k x y v : Nat) (hv : v < 64) : (gwW k x y).testBit v = GT.gv k (x.testBit v) (y.testBit v) := by
  unfold gwW GT.gv
  split <;> simp only [Nat.testBit_and, Nat.testBit_or, Nat.testBit_xor, ones_bit v hv, Bool.true_xor]
theorem wline_gate {N : Nat} {ls : List S40} {os : List Int} (h : okC (N : Int) ls os = true) (F : Option Nat) {i k a b : Nat} (hi : i < ls.length) (hs : ls[i] = ⟨(k : Int), (a : Int), (b : Int)⟩) :
    putW F (N + i) (gwW k (GT.wline (toC N ls os) F a) (GT.wline (toC N ls os) F b)) (2 ^ 2 ^ N - 1) = GT.wline (toC N ls os) F (N + i) := by
  have hN := (okC_small h).2.1
  have hok := okC_ok h
  refine GT.nat_ext fun v => ?_
  rw [putW_bit (by omega)]
  have hi' : i < (toC N ls os).gs.length := by simp [toC, hi]
  have e : (toC N ls os).gs[i] = ⟨k, a, b⟩ := by simp [toC, hs, toG]
  have hg := GT.vals_gate hok F v hi'
  rw [e] at hg
  unfold GT.wline
  rw [GT.wd_bit]
  show _ = (decide (v < 2 ^ N) && (GT.vals (toC N ls os) F v).getD (N + i) false)
  rw [show (GT.vals (toC N ls os) F v).getD (N + i) false = _ from hg]
  by_cases hv : v < 2 ^ N
  · have h64 : v < 64 := Nat.lt_of_lt_of_le hv (pow6 (by omega))
    rw [gwW_bit _ _ _ _ h64, GT.wd_bit, GT.wd_bit]
    show _ = (decide (v < 2 ^ N) && GT.put F (N + i) _)
    rw [show decide (v < 2 ^ (toC N ls os).n) = true from decide_eq_true hv, Bool.true_and, Bool.true_and]
  · simp [hv]
theorem pow64_le {N : Nat} (hN : N ≤ 6) : 2 ^ 2 ^ N ≤ 18446744073709551616 := by
  have : 2 ^ 2 ^ N ≤ 2 ^ 64 := Nat.pow_le_pow_right (by decide) (pow6 hN)
  simpa using this
theorem wline_lt64 {N : Nat} (hN : N ≤ 6) (ls : List S40) (os : List Int) (F : Option Nat) (j : Nat) : GT.wline (toC N ls os) F j < 18446744073709551616 := Nat.lt_of_lt_of_le (GT.wline_lt _ _ _) (pow64_le hN)
theorem words_W64 {N : Nat} (hN : N ≤ 6) (ls : List S40) (os : List Int) (F : Option Nat) (i : Nat) : W64 (GT.words (toC N ls os) F i) := by
  intro j
  by_cases h : j < i
  · rw [GT.words_get _ _ h]; exact wline_lt64 hN _ _ _ _
  · rw [List.getD_eq_getElem?_getD, List.getElem?_eq_none (by simp [GT.words]; omega)]
    decide
theorem inW_lt64 {N : Nat} (hN : N ≤ 6) (i v : Nat) (hv : v ≤ 2 ^ N) : inW i v < 18446744073709551616 := by
  have h1 : 2 ^ v ≤ 2 ^ 64 := Nat.pow_le_pow_right (by decide) (Nat.le_trans hv (pow6 hN))
  have h2 := inW_lt i v
  have h3 : (2 : Nat) ^ 64 = 18446744073709551616 := by decide
  omega
theorem gwW_lt64 {k x y : Nat} (hx : x < 18446744073709551616) (hy : y < 18446744073709551616) : gwW k x y < 18446744073709551616 := by
  have h64 : (18446744073709551616 : Nat) = 2 ^ 64 := by decide
  have hm : (18446744073709551615 : Nat) < 2 ^ 64 := by decide
  rw [h64] at hx hy ⊢
  unfold gwW
  split
  · exact Nat.lt_of_le_of_lt Nat.and_le_left hx
  · exact Nat.or_lt_two_pow hx hy
  · exact Nat.xor_lt_two_pow hx hy
  · exact Nat.xor_lt_two_pow hm (Nat.lt_of_le_of_lt Nat.and_le_left hx)
  · exact Nat.xor_lt_two_pow hm (Nat.or_lt_two_pow hx hy)
  · exact Nat.xor_lt_two_pow hm hx
end Go.Proofs.Ytelfalicickelaa.P
set_option linter.unusedSimpArgs false
set_option linter.unusedVariables false
namespace Go.Proofs.Ytelfalicickelaa.P
open Go.Lib Go.RowKit Go.Proofs.YtelfalicickelaaW.PrintWords Go.Proofs.YtelfalicickelaaW.PrintLast Go.Proofs.YtelfalicickelaaW.PrintMore Go.Proofs.Ytelfalicickelaa.Kit
theorem LAt.start (w : World) (g : Nat) (F : Option Nat) : LAt w g F [] (((w.alloc (.cells #[.pointer (some ⟨g, 0, none⟩)] 67)).alloc (.cells #[.int .i64 (fI F)] 3)).alloc (.cells #[.slice none 0 0] 72)) := by
  obtain ⟨w1, h1⟩ : ∃ w1, w.alloc (.cells #[.pointer (some ⟨g, 0, none⟩)] 67) = w1 := ⟨_, rfl⟩
  have a1 := heap_alloc_new w (.cells #[.pointer (some ⟨g, 0, none⟩)] 67)
  have b1 : Below w.heap.size w w1 := by rw [← h1]; exact below_alloc (Below.refl _ _) _
  have s1 : w1.heap.size = w.heap.size + 1 := by rw [← h1]; simp only [World.size_alloc]
  rw [h1] at a1 ⊢
  obtain ⟨w2, h2⟩ : ∃ w2, w1.alloc (.cells #[.int .i64 (fI F)] 3) = w2 := ⟨_, rfl⟩
  have a2 := heap_alloc_new w1 (.cells #[.int .i64 (fI F)] 3)
  have b2 : Below w1.heap.size w1 w2 := by rw [← h2]; exact below_alloc (Below.refl _ _) _
  have s2 : w2.heap.size = w1.heap.size + 1 := by rw [← h2]; simp only [World.size_alloc]
  rw [h2] at a2 ⊢
  have a3 := heap_alloc_new w2 (.cells #[.slice none 0 0] 72)
  have b3 : Below w2.heap.size w2 (w2.alloc (.cells #[.slice none 0 0] 72)) := below_alloc (Below.refl _ _) _
  rw [s1] at a2
  rw [s2, s1] at a3
  exact ⟨(b3.block _ (by omega)).trans ((b2.block _ (by omega)).trans a1), (b3.block _ (by omega)).trans a2, ⟨none, 0, a3, rfl, .inl ⟨rfl, rfl⟩⟩, b1.trans ((b2.trans (b3.mono (by omega))).mono (by omega))⟩
theorem LAt.reads {w W : World} {g : Nat} {F : Option Nat} {l : List Nat} (h : LAt w g F l W) : ∃ A c, W.cell? ⟨w.heap.size + 1 + 1, 0, none⟩ = some (.slice A (nI l).length c) ∧ Kd.C (Kd.int .u64) W A (nI l).length (nI l) ∧ (nI l).length ≤ c := by
  obtain ⟨A, c, h1, h2⟩ := h.l
  have hl := nI_length l
  rw [← hl] at h1 h2
  obtain ⟨A', c', e1, e2, e3⟩ := Kd.R_reads (R_int_mk0 (ok := fun _ => True) (fun _ _ => trivial) h2)
  injection e1 with e1 e4 e5
  subst e1 e5
  exact ⟨A, c, blkc h1 0 rfl, e3, e2⟩
theorem inW_walk {i v : Nat} (hi : i ≤ 64) (hv : v < 64) : Go.bits .or .u64 ((inW i v : Nat) : Int) (IntKind.u64.wrap (IntKind.u64.wrap (Go.bits .and .i64 ((v : Int) / 2 ^ min i 64) 1) * 2 ^ min v 64)) = ((inW i (v + 1) : Nat) : Int) := by
  rw [Nat.min_eq_left hi, Nat.min_eq_left (by omega)]
  have h1 : (v : Int) / 2 ^ i = ((v / 2 ^ i : Nat) : Int) := by simp
  have hle : v / 2 ^ i ≤ v := Nat.div_le_self _ _
  rw [h1, show (1 : Int) = ((1 : Nat) : Int) from rfl, and64 _ _ (by omega) (by omega), Nat.and_one_is_mod, u64w (by have := Nat.mod_lt (v / 2 ^ i) (show 0 < 2 by omega); omega)]
  have h2 : (2 : Int) ^ v = ((2 ^ v : Nat) : Int) := by simp
  have h3 : 2 ^ v ≤ 2 ^ 63 := Nat.pow_le_pow_right (by decide) (by omega)
  have h4 : v / 2 ^ i % 2 ≤ 1 := by have := Nat.mod_lt (v / 2 ^ i) (show 0 < 2 by omega); omega
  have h5 : v / 2 ^ i % 2 * 2 ^ v ≤ 2 ^ 63 := by
    refine Nat.le_trans (Nat.mul_le_mul_right _ h4) ?_
    omega
  have h6 : (2 : Nat) ^ 63 = 9223372036854775808 := by decide
  have h7 := inW_lt i v
  rw [h2, ← Int.natCast_mul, u64w (by omega), oru64 _ _ (by omega) (by omega), inW_succ]
set_option maxHeartbeats 8000000
set_option maxRecDepth 100000
theorem outs_calls {w : World} {g N : Nat} {ls : List S40} {os : List Int} (F : Option Nat) (hF : ∀ f, F = some f → f ≤ 100) (hok : okC (N : Int) ls os = true) (hC : CircAt w g N ls os) :
    Calls Try.prog 59 #[.pointer (some ⟨g, 0, none⟩), .int .i64 (fI F)] w fun e w' => ∃ v0_ : Value, e = .returned v0_ ∧ Kd.R (Kd.int .u64) 74 w' w.heap.size (fun _ => True) v0_ (nI (GT.outsW (toC N ls os) F)) ∧ Below w.heap.size w w' := by
  have hs := okC_small hok
  have HN1 := Aside0.mk hs.1
  have HN := Aside0.mk (show N ≤ 6 ∧ ls.length ≤ 16 ∧ os.length ≤ 4 by omega)
  have HOk := Aside0.mk hok
  have HF := Aside0.mk hF
  have HC := Aside0.mk hC
  have hC1 := hC
  obtain ⟨A1, c1, A2, c2, Au, cu, h1, h2, h3, h4, h5, h6⟩ := hC1
  have hp := pow6 HN.out.1
  obtain ⟨V, hV⟩ : ∃ V, 2 ^ N = V := ⟨_, rfl⟩
  have HVe := Aside0.mk hV
  rw [hV] at hp
  have HP := Aside0.mk hp
  have m0 := blkc h1 0 rfl
  have m2 := blkc h1 2 rfl
  have m3 := blkc h1 3 rfl
  have HM0 := Aside0.mk m0
  have HM2 := Aside0.mk m2
  have HM3 := Aside0.mk m3
  have HU := Aside0.mk h6
  have HOs := Aside0.mk (And.intro h4 h5)
  have HS := Aside0.mk (LAt.start w g F)
  obtain ⟨cc, hcc⟩ : ∃ cc, toC N ls os = cc := ⟨_, rfl⟩
  have HCc := Aside0.mk hcc
  rw [hcc]
  have b0 : Below w.heap.size w (((w.alloc (.cells #[.pointer (some ⟨g, 0, none⟩)] 67)).alloc (.cells #[.int .i64 (fI F)] 3)).alloc (.cells #[.slice none 0 0] 72)) := HS.out.b
  have m0' := pw_cell_below b0 m0
  clear hs hok hF hC h1 h2 h3 h4 h5 h6 hp hcc m0 m2 m3 b0 hV
  go_enter Try.func59, Try.ntmps59
  go_wp2
  go_loopw [21] (fun v21 w' => ∃ i : Nat, v21 = .int .i64 (i : Int) ∧ Aside0 (i ≤ N) ∧ Aside0 (LAt w g F (GT.words cc F i) w')) (fun v _ => N - (intOf v).toNat)
  case atStart => exact ⟨0, rfl, ⟨Nat.zero_le _⟩, HS⟩
  case round =>
    clear HS m0'
    obtain ⟨i, rfl, Hi, HL⟩ := hrel
    by_cases ct : (i : Int) < (N : Int)
    · have c1b : decide ((i : Int) < (N : Int)) = true := decide_eq_true ct
      have c1c : decide (i < N) = true := decide_eq_true (by omega)
      have Hct := Aside0.mk (show i < N by omega)
      obtain ⟨A0, c0, l0, lf, l2, l3, l4⟩ := HL.out.cells
      clear lf l2 l3 l4 ct
      have hv0 := vectors_calls (HC.out.keep HL.out.b) HN.out.1
      rw [HVe.out] at hv0
      have HV := Aside0.mk hv0
      clear hv0
      go_wp2_with (go_at_call 70; (refine (HV.out).mono ?_); rintro e w2 ⟨rfl, ⟨nd, rfl⟩⟩)
      have HL2 := Aside0.mk (HL.out.keep (pw_below_drewN (Below.refl _ _) nd))
      generalize wr.drewN nd = w3 at *
      have HI0 := Aside0.mk (show (0 : Int) = ((inW i 0 : Nat) : Int) by rfl)
      go_loopw [8, 26] (fun v8 v26 w' => ∃ v : Nat, v26 = .int .i64 (v : Int) ∧ v8 = .int .u64 ((inW i v : Nat) : Int) ∧ Aside0 (v ≤ V) ∧ Aside0 (LAt w g F (GT.words cc F i) w')) (fun _ v _ => V - (intOf v).toNat)
      case atStart => exact ⟨0, rfl, by rw [← HI0.out], ⟨Nat.zero_le _⟩, HL2⟩
      case round =>
        clear HL2 HI0 l0
        obtain ⟨v, rfl, rfl, Hv, HL3⟩ := hrel
        by_cases cv : (v : Int) < (V : Int)
        · have c2b : decide ((v : Int) < (V : Int)) = true := decide_eq_true cv
          have c2c : decide (v < V) = true := decide_eq_true (by omega)
          have Hcv := Aside0.mk (show v < V by omega)
          clear cv
          go_wp2
          go_roundw
          case rel => exact ⟨v + 1, by rw [w64 (by have := Hcv.out; have := HP.out; omega) (by have := Hcv.out; have := HP.out; omega)]; rfl, by rw [inW_walk (by have := Hct.out; have := HN.out; omega) (by have := Hcv.out; have := HP.out; omega)], ⟨Hcv.out⟩, HL3⟩
          case measure => rw [w64 (by have := Hcv.out; have := HP.out; omega) (by have := Hcv.out; have := HP.out; omega)]; have := Hcv.out; simp [intOf]; omega
        · have c2b : decide ((v : Int) < (V : Int)) = false := decide_eq_false cv
          have c2c : decide (v < V) = false := decide_eq_false (by omega)
          have hvV : v = V := by have := Hv.out; omega
          subst hvV
          have HAd := Aside0.mk (add_calls F (GT.words cc F i) (inW i v) wr HC.out HN.out.1 (by rw [← HVe.out]; exact inW_lt64 HN.out.1 i _ (Nat.le_refl _)) (by simp [GT.words]; have := Hct.out; have := HN.out; omega) HF.out HL3.out)
          have HPs := Aside0.mk (show GT.words cc F i ++ [putW F (GT.words cc F i).length (inW i v) (2 ^ 2 ^ N - 1)] = GT.words cc F (i + 1) by
            rw [GT.words_succ, show (GT.words cc F i).length = i by simp [GT.words], ← HCc.out, ← HVe.out, wline_in HN.out.1 ls os F Hct.out])
          clear cv
          go_wp2_with (go_at_call 89; (refine (HAd.out).mono ?_); rintro e w5 ⟨rfl, hl5⟩; rw [HPs.out] at hl5; have HL5 := Aside0.mk hl5; clear hl5)
          go_roundw
          case rel => exact ⟨i + 1, by rw [w64 (by have := Hct.out; have := HN.out; omega) (by have := Hct.out; have := HN.out; omega)]; rfl, ⟨Hct.out⟩, HL5⟩
          case measure => rw [w64 (by have := Hct.out; have := HN.out; omega) (by have := Hct.out; have := HN.out; omega)]; have := Hct.out; simp [intOf]; omega
    · have c1b : decide ((i : Int) < (N : Int)) = false := decide_eq_false ct
      have c1c : decide (i < N) = false := decide_eq_false (by omega)
      have hiN : N = i := by have := Hi.out; omega
      subst hiN
      obtain ⟨A0, c0, l0, _, _, _, _⟩ := HL.out.cells
      have m3 := pw_cell_below HL.out.b HM3.out
      clear ct
      go_wp2
      clear l0 m3
      go_loopw [48] (fun v48 w' => ∃ i : Nat, v48 = .int .i64 (i : Int) ∧ Aside0 (i ≤ ls.length) ∧ Aside0 (LAt w g F (GT.words cc F (N + i)) w')) (fun v _ => ls.length - (intOf v).toNat)
      case atStart => exact ⟨0, rfl, ⟨Nat.zero_le _⟩, HL⟩
      case round =>
        clear HL
        obtain ⟨i, rfl, Hi, HL⟩ := hrel
        by_cases ct : (i : Int) < (ls.length : Int)
        · have c1b : decide ((i : Int) < (ls.length : Int)) = true := decide_eq_true ct
          have c1c : decide (i < ls.length) = true := decide_eq_true (by omega)
          have hi : i < ls.length := by omega
          have Hct := Aside0.mk hi
          have q1 := eq_true ct
          have q2 := eq_true hi
          have q3 := eq_true (show (0 : Int) ≤ i by omega)
          obtain ⟨ad, ead, hx⟩ := HU.out i hi
          subst ead
          replace hx := pw_cell_below HL.out.b hx
          obtain ⟨k, a, b, hk, hk5, ha, hb, _⟩ := gate_nat (by have := HN1.out; omega) (gatesOk_at (okC_gates HOk.out).1 hi)
          have hwg := wline_gate HOk.out F hi hk
          rw [HCc.out] at hwg
          have hx2 : unitOf ls[i] = unitV (k : Int) (a : Int) (b : Int) := by rw [hk]; rfl
          rw [hx2] at hx
          have hla : a < (GT.words cc F (N + i)).length := by simp [GT.words]; omega
          have hlb : b < (GT.words cc F (N + i)).length := by simp [GT.words]; omega
          have hg1 : (GT.words cc F (N + i)).getD a 0 = GT.wline cc F a := GT.words_get _ _ ha
          have hg2 : (GT.words cc F (N + i)).getD b 0 = GT.wline cc F b := GT.words_get _ _ hb
          rw [← hg1, ← hg2] at hwg
          have h64 : W64 (GT.words cc F (N + i)) := by rw [← HCc.out]; exact words_W64 HN.out.1 ls os F _
          have HPs := Aside0.mk (show ∀ x, x = gwW k ((GT.words cc F (N + i)).getD a 0) ((GT.words cc F (N + i)).getD b 0) → GT.words cc F (N + i) ++ [putW F (GT.words cc F (N + i)).length x (2 ^ 2 ^ N - 1)] = GT.words cc F (N + (i + 1)) by
            intro x hx
            rw [← Nat.add_assoc, GT.words_succ, show (GT.words cc F (N + i)).length = N + i by simp [GT.words], hx, hwg])
          have HX := Aside0.mk (gwW_lt64 (k := k) (h64 a) (h64 b))
          have HLb := Aside0.mk (show (GT.words cc F (N + i)).length ≤ 22 by simp [GT.words]; have := HN.out; omega)
          have HAB := Aside0.mk (And.intro h64 (And.intro hla hlb))
          obtain ⟨A0, c0, l2, hr, _⟩ := HL.out.reads
          have HR := Aside0.mk hr
          generalize GT.words cc F (N + i) = l at *
          clear hwg hx2 hg1 hg2 hla hlb h64 hr hk ct ha hb
          have hkk : k = 0 ∨ k = 1 ∨ k = 2 ∨ k = 3 ∨ k = 4 ∨ k = 5 := by omega
          clear hk5
          rcases hkk with rfl | rfl | rfl | rfl | rfl | rfl
          · rw [show unitV ((0 : Nat) : Int) (a : Int) (b : Int) = .iface 122 (.agg #[.int .i64 (a : Int), .int .i64 (b : Int)]) from rfl] at hx
            obtain ⟨x, hxe⟩ : ∃ x, l.getD a 0 &&& l.getD b 0 = x := ⟨_, rfl⟩
            have HPx := Aside0.mk (HPs.out x hxe.symm)
            have hxl : x < 18446744073709551616 := by have := HX.out; rw [← hxe]; exact this
            have HXl := Aside0.mk hxl
            have hG := and_out a b A0 c0 l wr HR.out HAB.out.1 HAB.out.2.1 HAB.out.2.2
            rw [hxe] at hG
            have HG := Aside0.mk hG
            clear hG hxe hxl HPs
            go_wp2_with (first | (go_at_call 118; (refine (HG.out).mono ?_); rintro e w5 ⟨rfl, hb5⟩; have HL5 := Aside0.mk (HL.out.keep hb5); clear hb5) | (go_at_call 89; (refine (add_calls F l x _ HC.out HN.out.1 HXl.out HLb.out HF.out HL5.out).mono ?_); rintro e w6 ⟨rfl, hl6⟩; rw [HPx.out] at hl6; have HL6 := Aside0.mk hl6; clear hl6))
            go_roundw
            case rel => exact ⟨i + 1, by rw [w64 (by have := Hct.out; have := HN.out; omega) (by have := Hct.out; have := HN.out; omega)]; rfl, ⟨Hct.out⟩, HL6⟩
            case measure => rw [w64 (by have := Hct.out; have := HN.out; omega) (by have := Hct.out; have := HN.out; omega)]; have := Hct.out; simp [intOf]; omega
          · rw [show unitV ((1 : Nat) : Int) (a : Int) (b : Int) = .iface 123 (.agg #[.int .i64 (a : Int), .int .i64 (b : Int)]) from rfl] at hx
            obtain ⟨x, hxe⟩ : ∃ x, l.getD a 0 ||| l.getD b 0 = x := ⟨_, rfl⟩
            have HPx := Aside0.mk (HPs.out x hxe.symm)
            have hxl : x < 18446744073709551616 := by have := HX.out; rw [← hxe]; exact this
            have HXl := Aside0.mk hxl
            have hG := or_out a b A0 c0 l wr HR.out HAB.out.1 HAB.out.2.1 HAB.out.2.2
            rw [hxe] at hG
            have HG := Aside0.mk hG
            clear hG hxe hxl HPs
            go_wp2_with (first | (go_at_call 119; (refine (HG.out).mono ?_); rintro e w5 ⟨rfl, hb5⟩; have HL5 := Aside0.mk (HL.out.keep hb5); clear hb5) | (go_at_call 89; (refine (add_calls F l x _ HC.out HN.out.1 HXl.out HLb.out HF.out HL5.out).mono ?_); rintro e w6 ⟨rfl, hl6⟩; rw [HPx.out] at hl6; have HL6 := Aside0.mk hl6; clear hl6))
            go_roundw
            case rel => exact ⟨i + 1, by rw [w64 (by have := Hct.out; have := HN.out; omega) (by have := Hct.out; have := HN.out; omega)]; rfl, ⟨Hct.out⟩, HL6⟩
            case measure => rw [w64 (by have := Hct.out; have := HN.out; omega) (by have := Hct.out; have := HN.out; omega)]; have := Hct.out; simp [intOf]; omega
          · rw [show unitV ((2 : Nat) : Int) (a : Int) (b : Int) = .iface 124 (.agg #[.int .i64 (a : Int), .int .i64 (b : Int)]) from rfl] at hx
            obtain ⟨x, hxe⟩ : ∃ x, l.getD a 0 ^^^ l.getD b 0 = x := ⟨_, rfl⟩
            have HPx := Aside0.mk (HPs.out x hxe.symm)
            have hxl : x < 18446744073709551616 := by have := HX.out; rw [← hxe]; exact this
            have HXl := Aside0.mk hxl
            have hG := xor_out a b A0 c0 l wr HR.out HAB.out.1 HAB.out.2.1 HAB.out.2.2
            rw [hxe] at hG
            have HG := Aside0.mk hG
            clear hG hxe hxl HPs
            go_wp2_with (first | (go_at_call 120; (refine (HG.out).mono ?_); rintro e w5 ⟨rfl, hb5⟩; have HL5 := Aside0.mk (HL.out.keep hb5); clear hb5) | (go_at_call 89; (refine (add_calls F l x _ HC.out HN.out.1 HXl.out HLb.out HF.out HL5.out).mono ?_); rintro e w6 ⟨rfl, hl6⟩; rw [HPx.out] at hl6; have HL6 := Aside0.mk hl6; clear hl6))
            go_roundw
            case rel => exact ⟨i + 1, by rw [w64 (by have := Hct.out; have := HN.out; omega) (by have := Hct.out; have := HN.out; omega)]; rfl, ⟨Hct.out⟩, HL6⟩
            case measure => rw [w64 (by have := Hct.out; have := HN.out; omega) (by have := Hct.out; have := HN.out; omega)]; have := Hct.out; simp [intOf]; omega
          · rw [show unitV ((3 : Nat) : Int) (a : Int) (b : Int) = .iface 116 (.agg #[.iface 122 (.agg #[.int .i64 (a : Int), .int .i64 (b : Int)])]) from rfl] at hx
            obtain ⟨x, hxe⟩ : ∃ x, 18446744073709551615 ^^^ (l.getD a 0 &&& l.getD b 0) = x := ⟨_, rfl⟩
            have HPx := Aside0.mk (HPs.out x hxe.symm)
            have hxl : x < 18446744073709551616 := by have := HX.out; rw [← hxe]; exact this
            have HXl := Aside0.mk hxl
            have hG := opp_and_out a b A0 c0 l wr HR.out HAB.out.1 HAB.out.2.1 HAB.out.2.2
            rw [hxe] at hG
            have HG := Aside0.mk hG
            clear hG hxe hxl HPs
            go_wp2_with (first | (go_at_call 116; (refine (HG.out).mono ?_); rintro e w5 ⟨rfl, hb5⟩; have HL5 := Aside0.mk (HL.out.keep hb5); clear hb5) | (go_at_call 89; (refine (add_calls F l x _ HC.out HN.out.1 HXl.out HLb.out HF.out HL5.out).mono ?_); rintro e w6 ⟨rfl, hl6⟩; rw [HPx.out] at hl6; have HL6 := Aside0.mk hl6; clear hl6))
            go_roundw
            case rel => exact ⟨i + 1, by rw [w64 (by have := Hct.out; have := HN.out; omega) (by have := Hct.out; have := HN.out; omega)]; rfl, ⟨Hct.out⟩, HL6⟩
            case measure => rw [w64 (by have := Hct.out; have := HN.out; omega) (by have := Hct.out; have := HN.out; omega)]; have := Hct.out; simp [intOf]; omega
          · rw [show unitV ((4 : Nat) : Int) (a : Int) (b : Int) = .iface 116 (.agg #[.iface 123 (.agg #[.int .i64 (a : Int), .int .i64 (b : Int)])]) from rfl] at hx
            obtain ⟨x, hxe⟩ : ∃ x, 18446744073709551615 ^^^ (l.getD a 0 ||| l.getD b 0) = x := ⟨_, rfl⟩
            have HPx := Aside0.mk (HPs.out x hxe.symm)
            have hxl : x < 18446744073709551616 := by have := HX.out; rw [← hxe]; exact this
            have HXl := Aside0.mk hxl
            have hG := opp_or_out a b A0 c0 l wr HR.out HAB.out.1 HAB.out.2.1 HAB.out.2.2
            rw [hxe] at hG
            have HG := Aside0.mk hG
            clear hG hxe hxl HPs
            go_wp2_with (first | (go_at_call 116; (refine (HG.out).mono ?_); rintro e w5 ⟨rfl, hb5⟩; have HL5 := Aside0.mk (HL.out.keep hb5); clear hb5) | (go_at_call 89; (refine (add_calls F l x _ HC.out HN.out.1 HXl.out HLb.out HF.out HL5.out).mono ?_); rintro e w6 ⟨rfl, hl6⟩; rw [HPx.out] at hl6; have HL6 := Aside0.mk hl6; clear hl6))
            go_roundw
            case rel => exact ⟨i + 1, by rw [w64 (by have := Hct.out; have := HN.out; omega) (by have := Hct.out; have := HN.out; omega)]; rfl, ⟨Hct.out⟩, HL6⟩
            case measure => rw [w64 (by have := Hct.out; have := HN.out; omega) (by have := Hct.out; have := HN.out; omega)]; have := Hct.out; simp [intOf]; omega
          · rw [show unitV ((5 : Nat) : Int) (a : Int) (b : Int) = .iface 118 (.agg #[.int .i64 (a : Int)]) from rfl] at hx
            obtain ⟨x, hxe⟩ : ∃ x, 18446744073709551615 ^^^ l.getD a 0 = x := ⟨_, rfl⟩
            have HPx := Aside0.mk (HPs.out x hxe.symm)
            have hxl : x < 18446744073709551616 := by have := HX.out; rw [← hxe]; exact this
            have HXl := Aside0.mk hxl
            have hG := not_out a A0 c0 l wr HR.out HAB.out.1 HAB.out.2.1
            rw [hxe] at hG
            have HG := Aside0.mk hG
            clear hG hxe hxl HPs
            go_wp2_with (first | (go_at_call 117; (refine (HG.out).mono ?_); rintro e w5 ⟨rfl, hb5⟩; have HL5 := Aside0.mk (HL.out.keep hb5); clear hb5) | (go_at_call 89; (refine (add_calls F l x _ HC.out HN.out.1 HXl.out HLb.out HF.out HL5.out).mono ?_); rintro e w6 ⟨rfl, hl6⟩; rw [HPx.out] at hl6; have HL6 := Aside0.mk hl6; clear hl6))
            go_roundw
            case rel => exact ⟨i + 1, by rw [w64 (by have := Hct.out; have := HN.out; omega) (by have := Hct.out; have := HN.out; omega)]; rfl, ⟨Hct.out⟩, HL6⟩
            case measure => rw [w64 (by have := Hct.out; have := HN.out; omega) (by have := Hct.out; have := HN.out; omega)]; have := Hct.out; simp [intOf]; omega
        · have c1b : decide ((i : Int) < (ls.length : Int)) = false := decide_eq_false ct
          have c1c : decide (i < ls.length) = false := decide_eq_false (by omega)
          have hiN : ls.length = i := by have := Hi.out; omega
          subst hiN
          obtain ⟨A0, c0, l0, _, _, _, _⟩ := HL.out.cells
          have m2 := pw_cell_below HL.out.b HM2.out
          clear ct
          go_wp2
          clear l0 m2
          have HBw := Aside0.mk HL.out.b
          have HLr := Aside0.mk HL.out.reads
          clear HL
          generalize wr = wL at *
          have hB0 := Aside0.mk (Below.refl wL.heap.size wL)
          go_loopw [12, 64] (fun v12 v64 w' => ∃ i : Nat, v64 = .int .i64 (i : Int) ∧ Aside0 (i ≤ os.length) ∧ Aside0 (Kd.R (Kd.int .u64) 74 w' wL.heap.size (fun _ => True) v12 (nI ((GT.outsW cc F).take i))) ∧ Aside0 (Below wL.heap.size wL w')) (fun _ v _ => os.length - (intOf v).toNat)
          case atStart => exact ⟨0, rfl, ⟨Nat.zero_le _⟩, ⟨Kd.R_nil _ _ _ _ _⟩, hB0⟩
          case round =>
            clear hB0
            obtain ⟨i, rfl, Hi, HR, HB⟩ := hrel
            by_cases ct : (i : Int) < (os.length : Int)
            · have c1b : decide ((i : Int) < (os.length : Int)) = true := decide_eq_true ct
              have c1c : decide (i < os.length) = true := decide_eq_true (by omega)
              have hi : i < os.length := by omega
              have Hct := Aside0.mk hi
              have q1 := eq_true ct
              have q2 := eq_true hi
              have q3 := eq_true (show (0 : Int) ≤ i by omega)
              obtain ⟨ad, ead, hx⟩ := Kd.at_int (Kd.C_below (Kd.C_below HOs.out.1 HBw.out) HB.out) (i : Int) (by omega) ct
              subst ead
              rw [Int.toNat_natCast, rd_get _ _ hi] at hx
              have hon := out_nat HOk.out (List.getElem_mem hi)
              obtain ⟨o, ho⟩ := Int.eq_ofNat_of_zero_le hon.1
              rw [ho] at hx hon
              have hol : o < N + ls.length := by omega
              obtain ⟨A0, c0, l2, hr, _⟩ := HLr.out
              have hwl : (nI (GT.words cc F (N + ls.length))).length = N + ls.length := by rw [nI_length]; simp [GT.words]
              rw [hwl] at l2 hr
              obtain ⟨ad2, ead2, hy⟩ := Kd.at_int (Kd.C_below hr HB.out) (o : Int) (by omega) (by omega)
              subst ead2
              rw [rd_nI, Int.toNat_natCast, GT.words_get _ _ hol] at hy
              replace l2 := pw_cell_below HB.out l2
              have q4 := eq_true (show (o : Int) < ((N + ls.length : Nat) : Int) by omega)
              have q5 := eq_true hol
              have q6 := eq_true (show (0 : Int) ≤ o by omega)
              have htk : nI ((GT.outsW cc F).take i) ++ [((GT.wline cc F o : Nat) : Int)] = nI ((GT.outsW cc F).take (i + 1)) := by
                have hl : i < (GT.outsW cc F).length := by rw [← HCc.out]; simp [GT.outsW, toC, hi]
                rw [List.take_succ_eq_append_getElem hl, nI_snoc]
                congr 2
                have : (GT.outsW cc F)[i] = GT.wline cc F o := by
                  have e : (GT.outsW cc F)[i]? = some (GT.wline cc F o) := by
                    rw [← HCc.out]
                    simp [GT.outsW, toC, hi, ho]
                  rw [List.getElem?_eq_getElem hl] at e
                  injection e
                rw [this]
              have HTK := Aside0.mk htk
              have hlen : (nI ((GT.outsW cc F).take i)).length < 17592186044416 := by rw [nI_length, List.length_take]; have := HN.out; omega
              have HLen := Aside0.mk hlen
              generalize GT.wline cc F o = x at *
              obtain ⟨M, hM⟩ : ∃ M, N + ls.length = M := ⟨_, rfl⟩
              rw [hM] at l2 q4 q5
              clear ct hi hon ho hol hwl hr htk hlen hM
              go_wp2_with (first | ((with_reducible refine gate_builtin (b := .append) (xs := #[.tmp 68, .tmp 73]) rfl ?_); at_builtin; refine Kd.R_append (Kd.int .u64) (w0 := wL) wL.heap.size rfl (.tmp 68) (.tmp 73) 72 74 (.int .u64 0) 8 rfl Try.underlying72 info74 rfl (by decide) (by omega) _ (nI ((GT.outsW cc F).take i)) (x : Int) [.int .u64 (x : Int)] (fun _ => True) (fun _ => False) rfl rfl ?aP (fun _ hk => hk.elim) ?aF ?aO ?aB ?aS ?aL ?_; (case aP => exact rfl); (case aB => exact (by repeat (first | (with_reducible first | exact HB.out | apply below_alloc | apply pw_below_drewN | apply below_drew1) | exact HB.out))); (case aF => exact (fun _ _ => trivial)); (case aO => exact (by (with_reducible repeat (first | apply Kd.R_alloc | apply Kd.R_drewN | apply Kd.R_drew)); exact HR.out)); (case aS => exact (below_size (by repeat (first | (with_reducible first | exact HB.out | apply below_alloc | apply pw_below_drewN | apply below_drew1) | exact HB.out)))); (case aL => have := HLen.out; omega); intro v243 w7 ho hb hg hat; rw [HTK.out] at ho; have n0_ := Aside0.mk (hb); have n1_ := Aside0.mk (ho); clear HB; clear HR; have HB := n0_; have HR := n1_; clear n0_ n1_; clear ho hb hg hat))
              go_roundw
              case rel => exact ⟨i + 1, by rw [w64 (by have := Hct.out; have := HN.out; omega) (by have := Hct.out; have := HN.out; omega)]; rfl, ⟨Hct.out⟩, HR, HB⟩
              case measure => rw [w64 (by have := Hct.out; have := HN.out; omega) (by have := Hct.out; have := HN.out; omega)]; have := Hct.out; simp [intOf]; omega
            · have c1b : decide ((i : Int) < (os.length : Int)) = false := decide_eq_false ct
              have c1c : decide (i < os.length) = false := decide_eq_false (by omega)
              have he : (GT.outsW cc F).take i = GT.outsW cc F := List.take_of_length_le (by rw [← HCc.out]; simp [GT.outsW, toC]; omega)
              have HE := Aside0.mk he
              clear ct he
              go_wp2
              go_ret
              exact ⟨_, rfl, by rw [← HE.out]; exact R_low HR.out HBw.out.size, HBw.out.trans (HB.out.mono HBw.out.size)⟩
end Go.Proofs.Ytelfalicickelaa.P
namespace Go.Proofs.Ytelfalicickelaa.P
open Go.RowKit Go.Proofs.YtelfalicickelaaW.PrintWords Go.Proofs.YtelfalicickelaaW.PrintLast Go.Proofs.YtelfalicickelaaW.PrintMore
attribute [local go_sem] max2_int max_two
set_option linter.unusedVariables false
set_option linter.unusedSimpArgs false
def gate_members.l0 : Nat → Int → List Int → Int → Option (List Int)
  | 0, _, _, _ => none
  | k + 1, x0, x3, x4 => if 0 ≤ x4 then (if (shr .u64 x0 x4) > 0 then (if (Go.bits .and .u64 x0 (shl .u64 1 x4)) = 0 then (gate_members.l0 k x0 x3 (wrap64 (x4 + 1))) else (if x3.length < 17592186044416 then (gate_members.l0 k x0 (x3 ++ [x4]) (wrap64 (x4 + 1))) else (none))) else (some x3)) else (none)
def gate_members.f (k : Nat) (a0 : Int) : Option (List Int) := gate_members.l0 k a0 ([] : List Int) 0
set_option maxHeartbeats 8000000 in
set_option maxRecDepth 100000 in
theorem gate_members.calls (k : Nat) (a0 : Int) (r : List Int) (w : World) (h : gate_members.f k a0 = some r) :
    Calls Try.prog 68 #[.int .u64 a0] w fun e w' => ∃ v0_ : Value, e = .returned (v0_) ∧ Kd.R (Kd.int .i64) 3 w' w.heap.size (fun _ => True) v0_ r ∧ Below w.heap.size w w' := by
  have HB := Aside0.mk (Below.refl w.heap.size w)
  have H : (gate_members.l0 k a0 ([] : List Int) 0) = some r := h
  clear h
  have H' := Aside0.mk H
  clear H
  go_enter Try.func68, Try.ntmps68
  go_wp2
  go_loopg [3, 4] k (fun kq v3 v4 w' => ∃ (x3_1 : List Int) (x4_1 : Int), v4 = .int .i64 x4_1 ∧ Aside0 (gate_members.l0 kq a0 x3_1 x4_1 = some r) ∧ Aside0 (kq ≤ k) ∧ Aside0 (Kd.R (Kd.int .i64) 3 w' w.heap.size (fun _ => True) v3 x3_1) ∧ Aside0 (Below w.heap.size w w'))
  case atStart => exact ⟨(([] : List Int)), (0), (by first | rfl | (simp; done) | (simp [*]; done)), H', ⟨Nat.le_refl _⟩, ⟨by first | exact Kd.R_nil _ _ _ _ _ | exact Kd.N_nil _ _ _ _ _ | exact Kd.V_nil _ _ _ _ _ | exact Kd.Q_nil _ _ _ _ _ | exact Kd.S_nil _ _ _ _ _⟩, ⟨by repeat (first | (with_reducible first | exact HB.out | apply below_alloc | apply pw_below_drewN | apply below_drew1) | exact HB.out)⟩⟩
  case round =>
    clear H'
    obtain ⟨x3_1, x4_1, rfl, HA, HK1, HO_3, HB⟩ := hrel
    cases gk with
    | zero => exact absurd HA.out (by simp [gate_members.l0])
    | succ k1 =>
      have H := HA.out
      clear HA
      simp only [gate_members.l0] at H
      by_cases c2 : 0 ≤ x4_1
      · rw [if_pos c2] at H
        have c2b0 := eq_true c2
        have c2b1 : decide (0 ≤ x4_1) = true := decide_eq_true c2
        clear c2
        obtain ⟨ji3, hji3⟩ : ∃ j_ : Int, (shr .u64 a0 x4_1) = j_ := ⟨_, rfl⟩
        replace H : (if (ji3) > 0 then (if (Go.bits .and .u64 a0 (shl .u64 1 x4_1)) = 0 then (gate_members.l0 k1 a0 x3_1 (wrap64 (x4_1 + 1))) else (if x3_1.length < 17592186044416 then (gate_members.l0 k1 a0 (x3_1 ++ [x4_1]) (wrap64 (x4_1 + 1))) else (none))) else (some x3_1)) = some r := by first | (rw [hji3] at H; exact H) | (simp only [hji3] at H ⊢; exact H)
        have hji3_ : (a0 / 2 ^ min x4_1.toNat 64) = ji3 := hji3
        have hji3z : x4_1 ≤ 64 → (a0 / 2 ^ x4_1.toNat) = ji3 := shr_small hji3
        by_cases c4 : (ji3) > 0
        · rw [if_pos c4] at H
          have c4b0 : decide (0 < (ji3)) = true := decide_eq_true c4
          clear c4
          have c5b0 := eq_true (of_decide_eq_true (by first | (with_reducible assumption) | assumption) : 0 ≤ x4_1)
          obtain ⟨ji6, hji6⟩ : ∃ j_ : Int, (shl .u64 1 x4_1) = j_ := ⟨_, rfl⟩
          replace H : (if (Go.bits .and .u64 a0 (ji6)) = 0 then (gate_members.l0 k1 a0 x3_1 (wrap64 (x4_1 + 1))) else (if x3_1.length < 17592186044416 then (gate_members.l0 k1 a0 (x3_1 ++ [x4_1]) (wrap64 (x4_1 + 1))) else (none))) = some r := by first | (rw [hji6] at H; exact H) | (simp only [hji6] at H ⊢; exact H)
          have hji6_ : (IntKind.u64.wrap (1 * 2 ^ min x4_1.toNat 64)) = ji6 := hji6
          have hji6z : x4_1 ≤ 64 → (IntKind.u64.wrap (1 * 2 ^ x4_1.toNat)) = ji6 := shl_small hji6
          have hji6u : (IntKind.u64.wrap (2 ^ min x4_1.toNat 64)) = ji6 := by have h_ := hji6_; rw [Int.one_mul] at h_; exact h_
          have hji6v : x4_1 ≤ 64 → (IntKind.u64.wrap (2 ^ x4_1.toNat)) = ji6 := fun hle_ => by have h_ := hji6z hle_; rw [Int.one_mul] at h_; exact h_
          by_cases c7 : (Go.bits .and .u64 a0 (ji6)) = 0
          · rw [if_pos c7] at H
            have c7b0 : ((Go.bits .and .u64 a0 (ji6)) == 0) = true := beq_iff_eq.mpr c7
            have c7b1 : ((Go.bits .and .u64 a0 (ji6)) != 0) = false := bne_eq_false_iff_eq.mpr c7
            clear c7
            have H' := Aside0.mk H
            clear H
            go_wp2
            go_roundg k1
            case measure => have := HK1.out; omega
            case rel => exact ⟨(x3_1), (wrap64 (x4_1 + 1)), (by first | rfl | (simp; done) | (simp [*]; done)), H', ⟨by have := HK1.out; omega⟩, ⟨by (with_reducible repeat (first | apply Kd.R_alloc | apply Kd.R_drewN | apply Kd.R_drew)); first | exact HO_3.out | exact Kd.R_mono HO_3.out (fun k_ h_ => ne_own_len h_)⟩, ⟨by repeat (first | (with_reducible first | exact HB.out | apply below_alloc | apply pw_below_drewN | apply below_drew1) | exact HB.out)⟩⟩
          · rw [if_neg c7] at H
            have c7b0 : ((Go.bits .and .u64 a0 (ji6)) == 0) = false := beq_eq_false_iff_ne.mpr c7
            have c7b1 : ((Go.bits .and .u64 a0 (ji6)) != 0) = true := bne_iff_ne.mpr c7
            by_cases c8 : x3_1.length < 17592186044416
            · rw [if_pos c8] at H
              have LMc8 := Aside0.mk c8
              clear c8
              obtain ⟨y101, hy101⟩ : ∃ y_ : List Int, y_ = (x3_1 ++ [x4_1]) := ⟨_, rfl⟩
              replace H : (gate_members.l0 k1 a0 y101 (wrap64 (x4_1 + 1))) = some r := by first | (rw [hy101]; with_reducible exact H) | (have H2_ := (Option.bind_some _ _).symm.trans H; rw [hy101]; with_reducible exact H2_) | (have H2_ := (Option.bind_some _ _).symm.trans H; with_reducible exact H2_) | with_reducible exact H | (rw [hy101]; exact H) | exact H
              have Ny101 := Aside0.mk hy101
              clear hy101
              have H' := Aside0.mk H
              clear H
              go_wp2_with (first | ((with_reducible refine gate_builtin (b := .append) (xs := #[.tmp 16, .tmp 18]) rfl ?_); at_builtin; refine Kd.R_append (Kd.int .i64) (w0 := w) w.heap.size rfl (.tmp 16) (.tmp 18) 23 3 (.int .i64 0) 8 rfl Try.underlying23 info3 rfl (by decide) (by omega) u3 x3_1 x4_1 [.int .i64 x4_1] (fun _ => True) (fun _ => False) rfl rfl ?aP (fun _ hk => hk.elim) ?aF ?aO ?aB ?aS ?aL ?_; (case aP => exact rfl); (case aB => exact (by repeat (first | (with_reducible first | exact HB.out | apply below_alloc | apply pw_below_drewN | apply below_drew1) | exact HB.out))); (case aF => exact (fun _ _ => trivial)); (case aO => exact (by (with_reducible repeat (first | apply Kd.R_alloc | apply Kd.R_drewN | apply Kd.R_drew)); exact HO_3.out)); (case aS => exact (below_size (by repeat (first | (with_reducible first | exact HB.out | apply below_alloc | apply pw_below_drewN | apply below_drew1) | exact HB.out)))); (case aL => have := LMc8.out; omega); intro v102 w9 ho hb hg hat; rw [← Ny101.out] at ho; have n0_ := Aside0.mk (hb); have n1_ := Aside0.mk (ho); clear HB; clear HO_3; have HB := n0_; have HO103 := n1_; clear n0_ n1_; clear ho hb hg hat))
              go_roundg k1
              case measure => have := HK1.out; omega
              case rel => exact ⟨(y101), (wrap64 (x4_1 + 1)), (by first | rfl | (simp; done) | (simp [*]; done)), H', ⟨by have := HK1.out; omega⟩, ⟨by (with_reducible repeat (first | apply Kd.R_alloc | apply Kd.R_drewN | apply Kd.R_drew)); first | exact HO103.out | exact Kd.R_mono HO103.out (fun k_ h_ => ne_own_len h_)⟩, ⟨by repeat (first | (with_reducible first | exact HB.out | apply below_alloc | apply pw_below_drewN | apply below_drew1) | exact HB.out)⟩⟩
            · rw [if_neg c8] at H
              exact absurd H (by simp)
        · rw [if_neg c4] at H
          have c4b0 : decide (0 < (ji3)) = false := decide_eq_false c4
          clear c4
          obtain rfl := Option.some.inj H
          go_wp2
          go_ret
          exact ⟨_, by first | rfl | (simp [errW_none, errW_some] <;> rfl) | (simp only [← hji3]; first | rfl | (simp [errW_none, errW_some] <;> rfl)) | (simp [*, errW_none, errW_some] <;> rfl), by (with_reducible repeat (first | apply Kd.R_alloc | apply Kd.R_drewN | apply Kd.R_drew)); exact HO_3.out, by repeat (first | (with_reducible first | exact HB.out | apply below_alloc | apply pw_below_drewN | apply below_drew1) | exact HB.out)⟩
      · rw [if_neg c2] at H
        exact absurd H (by simp)
end Go.Proofs.Ytelfalicickelaa.P
namespace Go.Proofs.Ytelfalicickelaa.P
open Go.RowKit Go.Proofs.YtelfalicickelaaW.PrintWords Go.Proofs.YtelfalicickelaaW.PrintLast Go.Proofs.YtelfalicickelaaW.PrintMore
attribute [local go_sem] max2_int max_two
set_option linter.unusedVariables false
set_option linter.unusedSimpArgs false
def gate_reply.l0 : Nat → Int → Int → List Int → Int → Int → Option (Int)
  | 0, _, _, _, _, _ => none
  | k + 1, x1, x5, x8, x9, x10 => if x10 < x9 then (if 0 ≤ x10 then (if x10 < (x8.length : Int) then (if 0 ≤ x1 then (gate_reply.l0 k x1 (Go.bits .or .i64 x5 (shl .i64 (wrap64 (Go.bits .and .u64 (shr .u64 (rd x8 x10) x1) 1)) x10)) x8 x9 (wrap64 (x10 + 1))) else (none)) else (none)) else (none)) else (some x5)
def gate_reply.f (k : Nat) (l0 : List Int) (a1 : Int) : Option (Int) := gate_reply.l0 k a1 0 l0 (l0.length : Int) 0
set_option maxHeartbeats 8000000 in
set_option maxRecDepth 100000 in
theorem gate_reply.calls (k : Nat) (A0 : Option Addr) (c0 : Nat) (l0 : List Int) (a1 : Int) (r : Int) (w : World) (hr0 : Kd.C (Kd.int .u64) w A0 l0.length l0) (hc0 : l0.length ≤ c0) (h : gate_reply.f k l0 a1 = some r) :
    Calls Try.prog 81 #[.slice A0 l0.length c0, .int .i64 a1] w fun e w' => e = .returned (.int .i64 r) ∧ Drawn0 w w' := by
  have HR0 := Aside0.mk hr0
  have HC0 := Aside0.mk hc0
  clear hr0 hc0
  have H : (gate_reply.l0 k a1 0 l0 (l0.length : Int) 0) = some r := h
  clear h
  have H' := Aside0.mk H
  clear H
  go_enter Try.func81, Try.ntmps81
  go_wp2
  go_loopg [5, 10] k (fun kq v5 v10 w' => ∃ (x5_1 : Int) (x10_1 : Int), v5 = .int .i64 x5_1 ∧ v10 = .int .i64 x10_1 ∧ Aside0 (gate_reply.l0 kq a1 x5_1 l0 (l0.length : Int) x10_1 = some r) ∧ Aside0 (kq ≤ k) ∧ Drawn0 w w')
  case atStart => exact ⟨(0), (0), (by first | rfl | (simp; done) | (simp [*]; done)), (by first | rfl | (simp; done) | (simp [*]; done)), H', ⟨Nat.le_refl _⟩, by repeat (first | exact Drawn0.refl _ | apply Drawn0.step)⟩
  case round =>
    clear H'
    try clear p2
    obtain ⟨x5_1, x10_1, rfl, rfl, HA, HK1, ⟨m1, rfl⟩⟩ := hrel
    cases gk with
    | zero => exact absurd HA.out (by simp [gate_reply.l0])
    | succ k1 =>
      have H := HA.out
      clear HA
      simp only [gate_reply.l0] at H
      by_cases c3 : x10_1 < (l0.length : Int)
      · rw [if_pos c3] at H
        have c3b0 : decide (x10_1 < (l0.length : Int)) = true := decide_eq_true c3
        clear c3
        by_cases c4 : 0 ≤ x10_1
        · rw [if_pos c4] at H
          have c4b0 : decide (0 ≤ x10_1) = true := decide_eq_true c4
          clear c4
          by_cases c5 : x10_1 < (l0.length : Int)
          · rw [if_pos c5] at H
            have c5b0 : decide (x10_1 < (l0.length : Int)) = true := decide_eq_true c5
            clear c5
            by_cases c6 : 0 ≤ a1
            · rw [if_pos c6] at H
              have c6b0 := eq_true c6
              have c6b1 : decide (0 ≤ a1) = true := decide_eq_true c6
              clear c6
              obtain ⟨ji7, hji7⟩ : ∃ j_ : Int, (shr .u64 (rd l0 x10_1) a1) = j_ := ⟨_, rfl⟩
              replace H : (gate_reply.l0 k1 a1 (Go.bits .or .i64 x5_1 (shl .i64 (wrap64 (Go.bits .and .u64 (ji7) 1)) x10_1)) l0 (l0.length : Int) (wrap64 (x10_1 + 1))) = some r := by first | (rw [hji7] at H; exact H) | (simp only [hji7] at H ⊢; exact H)
              have hji7_ : ((rd l0 x10_1) / 2 ^ min a1.toNat 64) = ji7 := hji7
              have hji7z : a1 ≤ 64 → ((rd l0 x10_1) / 2 ^ a1.toNat) = ji7 := shr_small hji7
              have c8b0 := eq_true (of_decide_eq_true (by first | (with_reducible assumption) | assumption) : 0 ≤ x10_1)
              obtain ⟨ji9, hji9⟩ : ∃ j_ : Int, (shl .i64 (wrap64 (Go.bits .and .u64 (ji7) 1)) x10_1) = j_ := ⟨_, rfl⟩
              replace H : (gate_reply.l0 k1 a1 (Go.bits .or .i64 x5_1 (ji9)) l0 (l0.length : Int) (wrap64 (x10_1 + 1))) = some r := by first | (rw [hji9] at H; exact H) | (simp only [hji9] at H ⊢; exact H)
              have hji9_ : (IntKind.i64.wrap ((wrap64 (Go.bits .and .u64 (ji7) 1)) * 2 ^ min x10_1.toNat 64)) = ji9 := hji9
              have hji9z : x10_1 ≤ 64 → (IntKind.i64.wrap ((wrap64 (Go.bits .and .u64 (ji7) 1)) * 2 ^ x10_1.toNat)) = ji9 := shl_small hji9
              have hji9y : (wrap64 ((wrap64 (Go.bits .and .u64 (ji7) 1)) * 2 ^ min x10_1.toNat 64)) = ji9 := (i64_w _).symm.trans hji9_
              have hji9x : x10_1 ≤ 64 → (wrap64 ((wrap64 (Go.bits .and .u64 (ji7) 1)) * 2 ^ x10_1.toNat)) = ji9 := fun h_ => (i64_w _).symm.trans (hji9z h_)
              have H' := Aside0.mk H
              clear H
              have p104 : 0 ≤ (x10_1 : Int) := of_decide_eq_true (by first | (with_reducible assumption) | assumption)
              have q104 : x10_1 < (l0.length : Int) := of_decide_eq_true (by first | (with_reducible assumption) | assumption)
              obtain ⟨ad104, e104, hx104_0⟩ := Kd.at_int HR0.out x10_1 p104 q104
              cases e104
              replace p104 := eq_true p104
              replace q104 := eq_true q104
              go_wp2
              go_roundg k1
              case measure => have := HK1.out; omega
              case rel => exact ⟨(Go.bits .or .i64 x5_1 (ji9)), (wrap64 (x10_1 + 1)), (by first | rfl | (simp; done) | (simp only [← hji9] <;> (first | rfl | simp)) | (simp [*]; done)), (by first | rfl | (simp; done) | (simp [*]; done)), H', ⟨by have := HK1.out; omega⟩, by repeat (first | exact Drawn0.refl _ | apply Drawn0.step)⟩
            · rw [if_neg c6] at H
              exact absurd H (by simp)
          · rw [if_neg c5] at H
            exact absurd H (by simp)
        · rw [if_neg c4] at H
          exact absurd H (by simp)
      · rw [if_neg c3] at H
        have c3b0 : decide (x10_1 < (l0.length : Int)) = false := decide_eq_false c3
        clear c3
        obtain rfl := Option.some.inj H
        go_wp2
        go_ret
        exact ⟨by first | rfl | (simp; done) | (simp [*]; done), by repeat (first | exact Drawn0.refl _ | apply Drawn0.step)⟩
end Go.Proofs.Ytelfalicickelaa.P
namespace Go.Proofs.Ytelfalicickelaa.GT
def hit (vs : List Nat) (s : Nat) : Prop := ∃ v, v ∈ vs ∧ s.testBit v = true
def Cov (ok : Nat → Prop) (S : List Nat) (k : Nat) : Prop := ∃ vs : List Nat, vs.length ≤ k ∧ (∀ v, v ∈ vs → ok v) ∧ ∀ s, s ∈ S → hit vs s
def without (S : List Nat) (v : Nat) : List Nat := S.filter fun s => !s.testBit v
def memb (x : Nat) : List Nat := (List.range 64).filter fun i => x.testBit i
theorem mem_memb {x : Nat} (hx : x < 2 ^ 64) {v : Nat} : v ∈ memb x ↔ x.testBit v = true := by
  unfold memb
  rw [List.mem_filter, List.mem_range]
  refine ⟨fun h => h.2, fun h => ⟨?_, h⟩⟩
  by_cases hv : v < 64
  · exact hv
  · rw [Nat.testBit_lt_two_pow (Nat.lt_of_lt_of_le hx (Nat.pow_le_pow_right (by decide) (by omega)))] at h
    cases h
theorem mem_without {S : List Nat} {v s : Nat} : s ∈ without S v ↔ s ∈ S ∧ s.testBit v = false := by
  unfold without
  rw [List.mem_filter]
  simp
theorem hit_erase {vs : List Nat} {v s : Nat} (h : hit vs s) (hv : s.testBit v = false) : hit (vs.erase v) s := by
  obtain ⟨u, hu, hs⟩ := h
  refine ⟨u, (List.mem_erase_of_ne ?_).2 hu, hs⟩
  intro e
  rw [e, hv] at hs
  cases hs
theorem Cov.step {ok : Nat → Prop} {S : List Nat} {k v : Nat} (hv : ok v) (h : Cov ok (without S v) k) : Cov ok S (k + 1) := by
  obtain ⟨vs, h1, h2, h3⟩ := h
  refine ⟨v :: vs, by simp; omega, fun u hu => ?_, fun s hs => ?_⟩
  · rcases List.mem_cons.1 hu with rfl | hu
    · exact hv
    · exact h2 u hu
  · by_cases hb : s.testBit v = true
    · exact ⟨v, by simp, hb⟩
    · obtain ⟨u, hu, hs⟩ := h3 s (mem_without.2 ⟨hs, by simpa using hb⟩)
      exact ⟨u, by simp [hu], hs⟩
theorem Cov.unstep {ok : Nat → Prop} {S : List Nat} {k : Nat} {s : Nat} (hs : s ∈ S) (h : Cov ok S k) : ∃ j v, k = j + 1 ∧ s.testBit v = true ∧ ok v ∧ Cov ok (without S v) j := by
  obtain ⟨vs, h1, h2, h3⟩ := h
  obtain ⟨v, hv, hb⟩ := h3 s hs
  have hl := List.length_erase_of_mem hv
  have hp := List.length_pos_of_mem hv
  refine ⟨k - 1, v, by omega, hb, h2 v hv, vs.erase v, by omega, fun u hu => h2 u (List.mem_of_mem_erase hu), fun t ht => ?_⟩
  obtain ⟨ht1, ht2⟩ := mem_without.1 ht
  exact hit_erase (h3 t ht1) ht2
theorem cov_nil (ok : Nat → Prop) (k : Nat) : Cov ok [] k := ⟨[], Nat.zero_le _, fun v h => by simp at h, fun s h => by simp at h⟩
theorem cov_zero {ok : Nat → Prop} {S : List Nat} (h : Cov ok S 0) : S = [] := by
  obtain ⟨vs, h1, _, h3⟩ := h
  have : vs = [] := List.length_eq_zero_iff.1 (by omega)
  subst this
  rw [List.eq_nil_iff_forall_not_mem]
  intro s hs
  obtain ⟨v, hv, _⟩ := h3 s hs
  simp at hv
theorem Cov.mono {ok ok' : Nat → Prop} {S : List Nat} {k k' : Nat} (h : Cov ok S k) (ho : ∀ v, ok v → ok' v) (hk : k ≤ k') : Cov ok' S k' := by
  obtain ⟨vs, h1, h2, h3⟩ := h
  exact ⟨vs, by omega, fun v hv => ho v (h2 v hv), h3⟩
def canP (pick : List Nat → Nat → Nat) (a : Nat) : Nat → List Nat → Bool
  | 0, S => S.isEmpty
  | k + 1, S => S.isEmpty || (memb (pick S a &&& a)).any fun v => canP pick a k (without S v)
theorem canP_iff {pick : List Nat → Nat → Nat} (hp : ∀ S a, S ≠ [] → pick S a ∈ S) {a : Nat} (ha : a < 2 ^ 64) : ∀ (k : Nat) (S : List Nat), canP pick a k S = true ↔ Cov (fun v => a.testBit v = true) S k
  | 0, S => by
    unfold canP
    rw [List.isEmpty_iff]
    exact ⟨fun h => h ▸ cov_nil _ _, cov_zero⟩
  | k + 1, S => by
    unfold canP
    rw [Bool.or_eq_true, List.isEmpty_iff, List.any_eq_true]
    constructor
    · rintro (h | ⟨v, hv, h⟩)
      · rw [h]; exact cov_nil _ _
      · have hlt : pick S a &&& a < 2 ^ 64 := Nat.lt_of_le_of_lt Nat.and_le_right ha
        rw [mem_memb hlt, Nat.testBit_and, Bool.and_eq_true] at hv
        exact Cov.step hv.2 ((canP_iff hp ha k _).1 h)
    · intro h
      by_cases hS : S = []
      · exact .inl hS
      · obtain ⟨j, v, hj, hb, hok, hc⟩ := h.unstep (hp S a hS)
        obtain rfl : k = j := by omega
        refine .inr ⟨v, ?_, (canP_iff hp ha k _).2 hc⟩
        have hlt : pick S a &&& a < 2 ^ 64 := Nat.lt_of_le_of_lt Nat.and_le_right ha
        rw [mem_memb hlt, Nat.testBit_and, hb, hok]
        rfl
def firsts (can : Nat → List Nat → Nat → Bool) : Nat → Nat → List Nat → Nat → List Nat
  | 0, _, _, _ => []
  | _ + 1, _, _, 0 => []
  | d + 1, v, S, m + 1 => if can (v + 1) (without S v) m = true then v :: firsts can d (v + 1) (without S v) m else firsts can d (v + 1) S (m + 1)
def Least (V v : Nat) (S : List Nat) (m : Nat) : Prop := Cov (fun u => v ≤ u ∧ u < V) S m ∧ ∀ k, Cov (fun u => v ≤ u ∧ u < V) S k → m ≤ k
theorem Least.zero {V v : Nat} {S : List Nat} {m : Nat} (h : Least V v S m) : S = [] ↔ m = 0 := by
  constructor
  · intro e
    subst e
    exact Nat.le_zero.1 (h.2 0 (cov_nil _ _))
  · intro e
    subst e
    exact cov_zero h.1
theorem Cov.past {V v : Nat} {S : List Nat} {k : Nat} (h : Cov (fun u => v ≤ u ∧ u < V) (Go.Proofs.Ytelfalicickelaa.GT.without S v) k) : Cov (fun u => v + 1 ≤ u ∧ u < V) (Go.Proofs.Ytelfalicickelaa.GT.without S v) k := by
  obtain ⟨vs, h1, h2, h3⟩ := h
  refine ⟨vs.filter fun u => !(u == v), Nat.le_trans (List.length_filter_le _ _) h1, fun u hu => ?_, fun s hs => ?_⟩
  · obtain ⟨a, b⟩ := List.mem_filter.1 hu
    have := h2 u a
    simp at b
    omega
  · obtain ⟨u, hu, hb⟩ := h3 s hs
    refine ⟨u, List.mem_filter.2 ⟨hu, ?_⟩, hb⟩
    have := (mem_without.1 hs).2
    simp
    rintro rfl
    rw [this] at hb
    cases hb
theorem Least.take {V v : Nat} {S : List Nat} {m : Nat} (h : Least V v S (m + 1)) (hv : v < V) (hc : Cov (fun u => v + 1 ≤ u ∧ u < V) (Go.Proofs.Ytelfalicickelaa.GT.without S v) m) : Least V (v + 1) (Go.Proofs.Ytelfalicickelaa.GT.without S v) m :=
  ⟨hc, fun k hk => by
    have := h.2 (k + 1) (Cov.step (v := v) ⟨Nat.le_refl v, hv⟩ (hk.mono (fun u hu => ⟨by omega, hu.2⟩) (Nat.le_refl _)))
    omega⟩
theorem Least.skip {V v : Nat} {S : List Nat} {m : Nat} (h : Least V v S (m + 1)) (hc : ¬ Cov (fun u => v + 1 ≤ u ∧ u < V) (Go.Proofs.Ytelfalicickelaa.GT.without S v) m) : Least V (v + 1) S (m + 1) := by
  refine ⟨?_, fun k hk => h.2 k (hk.mono (fun u hu => ⟨by omega, hu.2⟩) (Nat.le_refl _))⟩
  obtain ⟨vs, h1, h2, h3⟩ := h.1
  by_cases hm : v ∈ vs
  · exfalso
    apply hc
    refine Cov.past ⟨vs.erase v, ?_, fun u hu => h2 u (List.mem_of_mem_erase hu), fun s hs => ?_⟩
    · have := List.length_erase_of_mem hm; omega
    · obtain ⟨a, b⟩ := mem_without.1 hs
      exact hit_erase (h3 s a) b
  · refine ⟨vs, h1, fun u hu => ?_, h3⟩
    have := h2 u hu
    have : u ≠ v := fun e => hm (e ▸ hu)
    omega
theorem Least.last {V v : Nat} {S : List Nat} {m : Nat} (h : Least V v S m) (hv : V ≤ v) : m = 0 := by
  obtain ⟨vs, h1, h2, h3⟩ := h.1
  have : vs = [] := by
    rw [List.eq_nil_iff_forall_not_mem]
    intro u hu
    have := h2 u hu
    omega
  subst this
  have h4 := h.2 0 ⟨[], Nat.le_refl _, fun v h => by simp at h, h3⟩
  omega
end Go.Proofs.Ytelfalicickelaa.GT
