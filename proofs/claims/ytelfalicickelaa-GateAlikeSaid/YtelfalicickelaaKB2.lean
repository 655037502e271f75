/- Texts of this claim, merged by a program (shake.py): what the last theorems reach of QOf, QAdd, QWord. -/
import Derived.Deep.AppendLies
import Derived.Deep.RegionHeld3
import Derived.Deep.DeepMust
import Derived.Test.YtelfalicickelaaKB1
set_option linter.unusedSimpArgs false
set_option linter.unusedVariables false
namespace Go.Proofs.Ytelfalicickelaa.P
open Go.Lib Go.RowKit Go.Proofs.YtelfalicickelaaW.PrintWords Go.Proofs.YtelfalicickelaaW.PrintLast Go.Proofs.YtelfalicickelaaW.PrintMore Go.Proofs.Ytelfalicickelaa.Kit
def gateOk (N i : Nat) (s : S40) : Bool := decide (0 ≤ s.f0 ∧ s.f0 ≤ 5) && (!(decide (s.f0 = 5) && decide (s.f2 ≠ 0)) && !(readsL s.f0 s.f1 s.f2).any (badL (N + i)))
def gatesOk (N : Nat) (ls : List S40) : Bool := (List.range ls.length).all fun i => gateOk N i (ls.getD i z40)
def okC (n : Int) (ls : List S40) (os : List Int) : Bool :=
  decide (1 ≤ n ∧ n ≤ 6 ∧ ls.length ≤ 16 ∧ 1 ≤ os.length ∧ os.length ≤ 4) && (gatesOk n.toNat ls && !os.any (badL (n.toNat + ls.length)))
structure OfAt (w : World) (N : Nat) (ls : List S40) (os : List Int) (A1 : Option Addr) (c1 : Nat) (A2 : Option Addr) (c2 : Nat) (i : Nat) (W : World) : Prop where
  c : W.heap[w.heap.size]? = some (.cells #[.int .i64 (N : Int), .slice A1 ls.length c1, .slice A2 os.length c2] 25 (0, 0))
  u : ∃ Au cu, W.heap[w.heap.size + 1]? = some (.cells #[.int .i64 (N : Int), .slice A1 ls.length c1, .slice A2 os.length c2, .slice Au i cu] 100 (0, 0)) ∧ W.ownsRow (w.heap.size + 3) 105 1 (.slice Au i cu) i ((ls.take i).map unitOf)
  x : W.heap[w.heap.size + 1 + 1]? = some (.cells #[.pointer (some ⟨w.heap.size + 1, 0, none⟩)] 67 (0, 0))
  b : Below w.heap.size w W
theorem OfAt.size {w W : World} {N : Nat} {ls : List S40} {os : List Int} {A1 : Option Addr} {c1 : Nat} {A2 : Option Addr} {c2 i : Nat} (h : OfAt w N ls os A1 c1 A2 c2 i W) : w.heap.size + 3 ≤ W.heap.size := (Array.getElem?_eq_some_iff.1 h.x).1
theorem OfAt.keep {w W W' : World} {N : Nat} {ls : List S40} {os : List Int} {A1 : Option Addr} {c1 : Nat} {A2 : Option Addr} {c2 i : Nat} (h : OfAt w N ls os A1 c1 A2 c2 i W) (hb : Below W.heap.size W W') : OfAt w N ls os A1 c1 A2 c2 i W' := by
  have hs := h.size
  obtain ⟨Au, cu, h1, h2, h3⟩ := h.u
  refine ⟨(hb.block _ (by omega)).trans h.c, ⟨Au, cu, (hb.block _ (by omega)).trans h1, h2, ?_⟩, (hb.block _ (by omega)).trans h.x, h.b.trans (hb.mono (by omega))⟩
  rcases h3 with h3 | ⟨g, cap, cur, e1, e2, e3, e4⟩
  · exact .inl h3
  · exact .inr ⟨g, cap, cur, e1, e2, (hb.block g (Array.getElem?_eq_some_iff.1 e3).1).trans e3, e4⟩
theorem OfAt.start (w : World) (N : Nat) (ls : List S40) (os : List Int) (A1 : Option Addr) (c1 : Nat) (A2 : Option Addr) (c2 : Nat) :
    OfAt w N ls os A1 c1 A2 c2 0 (((w.alloc (.cells #[.int .i64 (N : Int), .slice A1 ls.length c1, .slice A2 os.length c2] 25)).alloc (.cells #[.int .i64 (N : Int), .slice A1 ls.length c1, .slice A2 os.length c2, .slice none 0 0] 100)).alloc (.cells #[.pointer (some ⟨w.heap.size + 1, 0, none⟩)] 67)) := by
  obtain ⟨w1, h1⟩ : ∃ w1, w.alloc (.cells #[.int .i64 (N : Int), .slice A1 ls.length c1, .slice A2 os.length c2] 25) = w1 := ⟨_, rfl⟩
  have a1 := heap_alloc_new w (.cells #[.int .i64 (N : Int), .slice A1 ls.length c1, .slice A2 os.length c2] 25)
  have b1 : Below w.heap.size w w1 := by rw [← h1]; exact below_alloc (Below.refl _ _) _
  have s1 : w1.heap.size = w.heap.size + 1 := by rw [← h1]; simp only [World.size_alloc]
  rw [h1] at a1 ⊢
  obtain ⟨w2, h2⟩ : ∃ w2, w1.alloc (.cells #[.int .i64 (N : Int), .slice A1 ls.length c1, .slice A2 os.length c2, .slice none 0 0] 100) = w2 := ⟨_, rfl⟩
  have a2 := heap_alloc_new w1 (.cells #[.int .i64 (N : Int), .slice A1 ls.length c1, .slice A2 os.length c2, .slice none 0 0] 100)
  have b2 : Below w1.heap.size w1 w2 := by rw [← h2]; exact below_alloc (Below.refl _ _) _
  have s2 : w2.heap.size = w1.heap.size + 1 := by rw [← h2]; simp only [World.size_alloc]
  rw [h2] at a2 ⊢
  have a3 := heap_alloc_new w2 (.cells #[.pointer (some ⟨w.heap.size + 1, 0, none⟩)] 67)
  have b3 : Below w2.heap.size w2 (w2.alloc (.cells #[.pointer (some ⟨w.heap.size + 1, 0, none⟩)] 67)) := below_alloc (Below.refl _ _) _
  rw [s1] at a2
  rw [s2, s1] at a3
  exact ⟨(b3.block _ (by omega)).trans ((b2.block _ (by omega)).trans a1), ⟨none, 0, (b3.block _ (by omega)).trans a2, rfl, .inl ⟨rfl, rfl⟩⟩, a3, b1.trans ((b2.trans (b3.mono (by omega))).mono (by omega))⟩
theorem OfAt.push {w W W9 : World} {N : Nat} {ls : List S40} {os : List Int} {A1 : Option Addr} {c1 : Nat} {A2 : Option Addr} {c2 i : Nat} (h : OfAt w N ls os A1 c1 A2 c2 i W) {A' : Option Addr} {c' : Nat} (hb : Below (w.heap.size + 3) W W9)
    (hr : W9.ownsRow (w.heap.size + 3) 105 1 (.slice A' (i + 1) c') (i + 1) ((ls.take (i + 1)).map unitOf)) :
    OfAt w N ls os A1 c1 A2 c2 (i + 1) (W9.setCell ⟨w.heap.size + 1, 3, none⟩ (.slice A' (i + 1) c')) := by
  obtain ⟨Au, cu, h1, _⟩ := h.u
  have a1 := (hb.block (w.heap.size + 1) (by omega)).trans h1
  have hset : ∀ B, B ≠ w.heap.size + 1 → (W9.setCell ⟨w.heap.size + 1, 3, none⟩ (.slice A' (i + 1) c')).heap[B]? = W9.heap[B]? := fun B hB => by
    simp only [World.setCell, Array.getElem?_modify]
    rw [if_neg (fun e => hB e.symm)]
  refine ⟨(hset _ (by omega)).trans ((hb.block _ (by omega)).trans h.c), ⟨A', c', ?_, hr.1, ?_⟩, (hset _ (by omega)).trans ((hb.block _ (by omega)).trans h.x), (h.b.trans (hb.mono (by omega))).setCell (by show w.heap.size ≤ w.heap.size + 1; omega) _⟩
  · simp only [World.setCell, Array.getElem?_modify, if_true, a1, Option.map_some]
    rfl
  · rcases hr.2 with h3 | ⟨g, cap, cur, e1, e2, e3, e4⟩
    · exact .inl h3
    · exact .inr ⟨g, cap, cur, e1, e2, (hset g (by omega)).trans e3, e4⟩
theorem OfAt.cells {w W : World} {N : Nat} {ls : List S40} {os : List Int} {A1 : Option Addr} {c1 : Nat} {A2 : Option Addr} {c2 i : Nat} (h : OfAt w N ls os A1 c1 A2 c2 i W) :
    ∃ Au cu, W.cell? ⟨w.heap.size + 1 + 1, 0, none⟩ = some (.pointer (some ⟨w.heap.size + 1, 0, none⟩)) ∧ W.cell? ⟨w.heap.size + 1, 3, none⟩ = some (.slice Au i cu) ∧ W.frozen? ⟨w.heap.size + 1, 3, none⟩ = false ∧ W.ownsRow (w.heap.size + 3) 105 1 (.slice Au i cu) i ((ls.take i).map unitOf) := by
  obtain ⟨Au, cu, h1, h2⟩ := h.u
  refine ⟨Au, cu, blkc h.x 0 rfl, blkc h1 3 rfl, ?_, h2⟩
  unfold World.frozen?
  rw [h1]
  rfl
theorem OfAt.circ {w W : World} {N : Nat} {ls : List S40} {os : List Int} {A1 : Option Addr} {c1 : Nat} {A2 : Option Addr} {c2 : Nat} (h : OfAt w N ls os A1 c1 A2 c2 ls.length W) (hr1 : Kd.C k40 w A1 ls.length ls) (hc1 : ls.length ≤ c1) (hr2 : Kd.C (Kd.int .i64) w A2 os.length os) (hc2 : os.length ≤ c2) : CircAt W (w.heap.size + 1) N ls os := by
  obtain ⟨Au, cu, h1, h2⟩ := h.u
  refine ⟨A1, c1, A2, c2, Au, cu, h1, Kd.C_below hr1 h.b, hc1, Kd.C_below hr2 h.b, hc2, fun j hj => ?_⟩
  rw [List.take_of_length_le (Nat.le_refl _)] at h2
  rcases h2.2 with ⟨e1, e2⟩ | ⟨g, cap, cur, e1, e2, e3, e4, e5, e6⟩
  · exact absurd e2 (by omega)
  · injection e1 with e1 _ _
    subst e1
    refine ⟨_, rfl, ?_⟩
    have hc : cur[j]? = some (unitOf ls[j]) := by
      have h5 : cur.toList[j]? = (ls.map unitOf)[j]? := by
        have := e6.2
        rw [Nat.mul_one] at this
        rw [← this, List.getElem?_take, if_pos hj]
      rw [Array.getElem?_toList] at h5
      rw [h5]
      simp [hj]
    have hadd : (⟨g, 0, none⟩ : Addr).add j = ⟨g, j, none⟩ := by
      unfold Addr.add
      by_cases e : j = 0
      · rw [if_pos e, e]
      · rw [if_neg e]; simp
    rw [hadd]
    exact blkc e3 j hc
theorem own_below {w W' : World} {base e n : Nat} {v : Value} {xs : List Value} (h : w.ownsRow base e 1 v n xs) (hb : Below w.heap.size w W') : W'.ownsRow base e 1 v n xs := by
  refine ⟨h.1, ?_⟩
  rcases h.2 with h3 | ⟨g, cap, cur, e1, e2, e3, e4⟩
  · exact .inl h3
  · exact .inr ⟨g, cap, cur, e1, e2, (hb.block g (Array.getElem?_eq_some_iff.1 e3).1).trans e3, e4⟩
theorem frozen_at {B : Nat} {w w' : World} (h : Below B w w') {p : Addr} (hp : p.block < B) : w'.frozen? p = w.frozen? p := by
  unfold World.frozen?
  rw [h.block p.block hp]
theorem own_block {w : World} {base e n : Nat} {v : Value} {xs : List Value} (h : w.ownsRow base e 1 v n xs) : ∀ k, v.ownBlock = some k → base ≤ k := by
  intro k hk
  rcases h.2 with ⟨rfl, _⟩ | ⟨g, cap, cur, rfl, e2, e3, e4⟩
  · cases hk
  · have hk2 : some g = some k := hk
    injection hk2 with hk2
    subst hk2
    exact e2
theorem one_iface (T : TypeId) (x : Value) : ∀ u ∈ [Value.iface T x], u.oneCell' = true := by
  intro u hu
  have hu2 := List.mem_singleton.1 hu
  subst hu2
  rfl
theorem gate_op {P : Program} {ops : Array Oper} {o : Oper} {a : Act} {w : World} {K : Act → World → Prop} {Q : Exit → Act → World → Prop} {E : Prop} (x : Op) (_h : o.op = x)
    (k : if Region.wanted o (yielded ops a.tmps) = true then Oper.wp P o a w K Q else E) : if Region.wanted o (yielded ops a.tmps) = true then Oper.wp P o a w K Q else E := k
theorem news_one {W : World} {ad : Addr} {v : Value} (h : W.cell? ad = some v) : ∀ j u, [v][j]? = some u → W.cell? (ad.add j) = some u := by
  intro j u hu
  cases j with
  | zero =>
    have e : v = u := by simpa using hu
    rw [← e, ← h]
    simp [Addr.add]
  | succ j => simp at hu
theorem info_unit : (Try.prog.info? 105).map (fun i => (i.zero, i.size, i.bytes)) = some (some .nilIface, 1, 16) := by kernel_rfl
theorem unit_ne (k a b : Int) (hk : 0 ≤ k ∧ k ≤ 5) (w : World) : (binOp .eql 105 (unitV k a b) .nilIface).run Try.prog w = .ok (.bool false) w := by
  rcases kinds hk.1 hk.2 with rfl | rfl | rfl | rfl | rfl | rfl <;> kernel_rfl
theorem unit_guard (k a b : Int) (hk : 0 ≤ k ∧ k ≤ 5) (w : World) : (eqGuard .eql 105 (.tmp 46) (.const .nilIface) (unitV k a b) .nilIface).run Try.prog w = .ok () w := by
  rcases kinds hk.1 hk.2 with rfl | rfl | rfl | rfl | rfl | rfl <;> kernel_rfl
theorem unit_iface (k a b : Int) (hk : 0 ≤ k ∧ k ≤ 5) : ∃ T x, unitV k a b = .iface T x := by
  rcases kinds hk.1 hk.2 with rfl | rfl | rfl | rfl | rfl | rfl <;> exact ⟨_, _, rfl⟩
theorem gatesOk_at {N : Nat} {ls : List S40} {i : Nat} (h : gatesOk N ls = true) (hi : i < ls.length) : gateOk N i ls[i] = true := by
  unfold gatesOk at h
  have := List.all_eq_true.1 h i (List.mem_range.2 hi)
  simpa [List.getD_eq_getElem?_getD, hi] using this
theorem gatesOk_of {N : Nat} {ls : List S40} (h : (List.range ls.length).all (fun i => gateOk N i (ls.getD i z40)) = true) : gatesOk N ls = true := h
theorem all_step {N : Nat} {ls : List S40} {i : Nat} (h : (List.range i).all (fun i => gateOk N i (ls.getD i z40)) = true) (hi : i < ls.length) (hg : gateOk N i ls[i] = true) : (List.range (i + 1)).all (fun i => gateOk N i (ls.getD i z40)) = true := by
  rw [List.range_succ, List.all_append, h]
  simpa [List.getD_eq_getElem?_getD, hi] using hg
theorem okC_gate {N : Nat} {ls : List S40} {os : List Int} {i : Nat} (hi : i < ls.length) (hg : gateOk N i ls[i] = false) : okC (N : Int) ls os = false := by
  cases h : okC (N : Int) ls os with
  | false => rfl
  | true =>
    unfold okC at h
    rw [Bool.and_eq_true, Bool.and_eq_true, Int.toNat_natCast] at h
    rw [gatesOk_at h.2.1 hi] at hg
    cases hg
def boxes (W : World) (i : Nat) (k a b : Int) : World := (W.alloc (.cells #[.int .i64 (i : Int)] 3)).alloc (.cells #[.int .i64 k, .int .i64 a, .int .i64 b] 40)
theorem boxes_size (W : World) (i : Nat) (k a b : Int) : (boxes W i k a b).heap.size = W.heap.size + 1 + 1 := by unfold boxes; simp only [World.size_alloc]
theorem boxes_below (W : World) (i : Nat) (k a b : Int) : Below W.heap.size W (boxes W i k a b) := below_alloc (below_alloc (Below.refl _ _) _) _
theorem boxes_i (W : World) (i : Nat) (k a b : Int) : (boxes W i k a b).heap[W.heap.size]? = some (.cells #[.int .i64 (i : Int)] 3 (0, 0)) := by
  unfold boxes
  have h1 := heap_alloc_new W (.cells #[.int .i64 (i : Int)] 3)
  exact ((below_alloc (Below.refl (W.alloc (.cells #[.int .i64 (i : Int)] 3)).heap.size _) _).block _ (Array.getElem?_eq_some_iff.1 h1).1).trans h1
theorem boxes_g (W : World) (i : Nat) (k a b : Int) : (boxes W i k a b).heap[W.heap.size + 1]? = some (.cells #[.int .i64 k, .int .i64 a, .int .i64 b] 40 (0, 0)) := by
  unfold boxes
  have h1 := heap_alloc_new (W.alloc (.cells #[.int .i64 (i : Int)] 3)) (.cells #[.int .i64 k, .int .i64 a, .int .i64 b] 40)
  rwa [World.size_alloc] at h1
theorem boxes_after {W W' : World} (i : Nat) (k a b : Int) (hb : Below (boxes W i k a b).heap.size (boxes W i k a b) W') :
    W'.heap[W.heap.size]? = some (.cells #[.int .i64 (i : Int)] 3 (0, 0)) ∧ W'.cell? ⟨W.heap.size + 1, 0, none⟩ = some (.int .i64 k) ∧ W'.cell? ⟨W.heap.size + 1, 2, none⟩ = some (.int .i64 b) ∧ Below W.heap.size W W' := by
  have hs := boxes_size W i k a b
  exact ⟨(hb.block _ (by omega)).trans (boxes_i W i k a b), blkc ((hb.block _ (by omega)).trans (boxes_g W i k a b)) 0 rfl, blkc ((hb.block _ (by omega)).trans (boxes_g W i k a b)) 2 rfl, (boxes_below W i k a b).trans (hb.mono (by omega))⟩
set_option maxHeartbeats 8000000
set_option maxRecDepth 100000
theorem of_main (N : Nat) (ls : List S40) (os : List Int) (A1 : Option Addr) (c1 : Nat) (A2 : Option Addr) (c2 : Nat) (w : World) (h0 : 1 ≤ N ∧ N ≤ 6 ∧ ls.length ≤ 16 ∧ 1 ≤ os.length ∧ os.length ≤ 4) (hr1 : Kd.C k40 w A1 ls.length ls) (hc1 : ls.length ≤ c1) (hr2 : Kd.C (Kd.int .i64) w A2 os.length os) (hc2 : os.length ≤ c2) :
    Calls Try.prog 54 #[.agg #[.int .i64 (N : Int), .slice A1 ls.length c1, .slice A2 os.length c2]] w fun e w' => Below w.heap.size w w' ∧ ((okC (N : Int) ls os = true ∧ ∃ g, e = .returned (.pointer (some ⟨g, 0, none⟩)) ∧ CircAt w' g N ls os) ∨ (okC (N : Int) ls os = false ∧ e = .returned (.pointer none))) := by
  have HR1 := Aside0.mk hr1
  have HR2 := Aside0.mk hr2
  have HC := Aside0.mk (And.intro hc1 hc2)
  have HH := Aside0.mk h0
  have d1 : decide ((N : Int) < 1) = false := decide_eq_false (by omega)
  have d2 : decide ((6 : Int) < (N : Int)) = false := decide_eq_false (by omega)
  have d3 : decide ((16 : Int) < (ls.length : Int)) = false := decide_eq_false (by omega)
  have d4 : decide ((os.length : Int) < 1) = false := decide_eq_false (by omega)
  have d5 : decide ((4 : Int) < (os.length : Int)) = false := decide_eq_false (by omega)
  have d1' : decide (N < 1) = false := decide_eq_false (by omega)
  have d2' : decide (6 < N) = false := decide_eq_false (by omega)
  have d3' : decide (16 < ls.length) = false := decide_eq_false (by omega)
  have d4' : decide (os.length < 1) = false := decide_eq_false (by omega)
  have d5' : decide (4 < os.length) = false := decide_eq_false (by omega)
  have HS := Aside0.mk (OfAt.start w N ls os A1 c1 A2 c2)
  clear hr1 hr2 hc1 hc2 h0
  go_enter Try.func54, Try.ntmps54
  go_wp2
  go_loopw [39] (fun v39 w' => ∃ i : Nat, v39 = .int .i64 (i : Int) ∧ Aside0 (i ≤ ls.length) ∧ Aside0 ((List.range i).all (fun i => gateOk N i (ls.getD i z40)) = true) ∧ Aside0 (OfAt w N ls os A1 c1 A2 c2 i w')) (fun v _ => ls.length - (intOf v).toNat)
  case atStart => exact ⟨0, rfl, ⟨Nat.zero_le _⟩, ⟨rfl⟩, HS⟩
  case round =>
    clear HS d1 d2 d3 d4 d5 d1' d2' d3' d4' d5'
    obtain ⟨i, rfl, Hi, HG, HO⟩ := hrel
    by_cases ct : (i : Int) < (ls.length : Int)
    · have c1b : decide ((i : Int) < (ls.length : Int)) = true := decide_eq_true ct
      have c1c : decide (i < ls.length) = true := decide_eq_true (by omega)
      have hi : i < ls.length := by omega
      have Hct := Aside0.mk hi
      have p0 : (0 : Int) ≤ i := by omega
      have q1 := eq_true ct
      have q2 := eq_true hi
      have q3 := eq_true p0
      obtain ⟨ad, ead, hx0, hx1, hx2⟩ := at_T40 (Kd.C_below HR1.out HO.out.b) (i : Int) p0 ct
      subst ead
      rw [Int.toNat_natCast] at hx0 hx1 hx2
      have hrd : rd_T40 ls (i : Int) = ls[i] := by unfold rd_T40; simp [hi]
      rw [hrd] at hx0 hx1 hx2
      obtain ⟨s, hs⟩ : ∃ s, ls[i] = s := ⟨_, rfl⟩
      rw [hs] at hx0 hx1 hx2
      obtain ⟨k, a, b⟩ := s
      dsimp only at hx0 hx1 hx2
      have HSs := Aside0.mk hs
      clear hrd hs
      by_cases hk : 0 ≤ k ∧ k ≤ 5
      · have HM := Aside0.mk (fun W => made_some k a b hk W)
        have HRd := Aside0.mk (fun W => reads_calls k a b hk W)
        have une := unit_ne k a b hk
        have ung := unit_guard k a b hk
        obtain ⟨T, x, hTx⟩ := unit_iface k a b hk
        rw [hTx] at une ung
        simp only [hTx] at HM HRd
        have hgo : gateOk N i ls[i] = (!(decide (k = 5) && decide (b ≠ 0)) && !(readsL k a b).any (badL (N + i))) := by rw [HSs.out]; unfold gateOk; rw [decide_eq_true hk, Bool.true_and]
        by_cases h5 : k = 5 ∧ b ≠ 0
        · have e5 : (k == 5) = true := beq_iff_eq.2 h5.1
          have e6 : (b != 0) = true := bne_iff_ne.2 h5.2
          have HF := Aside0.mk (okC_gate (N := N) (os := os) hi (by rw [hgo, decide_eq_true h5.1, decide_eq_true h5.2]; rfl))
          clear HSs hgo h5 hk hi ct
          go_wp2_with (go_at_call 85; (refine (HM.out _).mono ?_); rintro e w3 ⟨rfl, hb⟩; obtain ⟨b1, b2, b3, b4⟩ := boxes_after i k a b hb; have HB1 := Aside0.mk b1; have HB4 := Aside0.mk b4; clear hb b1 b4)
          go_ret
          exact ⟨HO.out.b.trans (HB4.out.mono (by have := HO.out.size; omega)), .inr ⟨HF.out, rfl⟩⟩
        · have hcase : ((k == 5) = true ∧ (b != 0) = false) ∨ ((k == 5) = false) := by
            by_cases h : k = 5
            · refine .inl ⟨beq_iff_eq.2 h, ?_⟩
              have : b = 0 := Classical.byContradiction fun e => h5 ⟨h, e⟩
              rw [this]; rfl
            · exact .inr (beq_eq_false_iff_ne.2 h)
          have hgo2 : gateOk N i ls[i] = !(readsL k a b).any (badL (N + i)) := by
            rw [hgo]
            have : (decide (k = 5) && decide (b ≠ 0)) = false := by
              cases e : (decide (k = 5) && decide (b ≠ 0)) with
              | false => rfl
              | true => rw [Bool.and_eq_true, decide_eq_true_eq, decide_eq_true_eq] at e; exact absurd e h5
            rw [this]; rfl
          obtain ⟨q, hq⟩ : ∃ q, (readsL k a b).any (badL (N + i)) = q := ⟨_, rfl⟩
          rw [hq] at hgo2
          have HQ := Aside0.mk hq
          have HGo := Aside0.mk hgo2
          have HiN := Aside0.mk (show N ≤ 6 ∧ i ≤ 16 by have := HH.out; omega)
          have HLt := Aside0.mk hi
          clear hgo h5 hq hgo2 hk
          cases q with
          | true =>
            have HF := Aside0.mk (okC_gate (N := N) (os := os) hi (by rw [HGo.out]; rfl))
            clear HSs hi ct HGo
            rcases hcase with ⟨e5, e6⟩ | e5
            all_goals
              go_wp2_with (first | (go_at_call 85; (refine (HM.out _).mono ?_); rintro e w3 ⟨rfl, hb⟩; obtain ⟨b1, b2, b3, b4⟩ := boxes_after i k a b hb; have HB1 := Aside0.mk b1; have HB4 := Aside0.mk b4; clear hb b1 b4) | (go_at_call 84; (refine (HRd.out _).mono ?_); rintro e w4 ⟨v4, rfl, hR, hb⟩; obtain ⟨A4, c4, rfl⟩ := Kd.R_slice hR; have HR4 := Aside0.mk (Kd.R_reads' hR); have HO4 := Aside0.mk ((HO.out.keep HB4.out).keep hb); have HI4 := Aside0.mk ((hb.block _ (Array.getElem?_eq_some_iff.1 HB1.out).1).trans HB1.out); clear hR hb) | (go_at_call 86; (refine (any_reads N i _ _ HiN.out.1 HiN.out.2 ⟨_, HO4.out.c⟩ ⟨_, HI4.out⟩ _ _ _ HR4.out.2.2 true HQ.out).mono ?_); rintro e w5 ⟨rfl, ⟨nd, rfl⟩⟩))
              go_ret
              exact ⟨pw_below_drewN HO4.out.b _, .inr ⟨HF.out, rfl⟩⟩
          | false =>
            have hst := all_step HG.out hi (by rw [HGo.out]; rfl)
            have HSt := Aside0.mk hst
            have htk : (ls.take i).map unitOf ++ [unitV k a b] = (ls.take (i + 1)).map unitOf := by
              rw [List.take_succ_eq_append_getElem hi, List.map_append]
              congr 1
              show _ = [unitOf ls[i]]
              rw [HSs.out]
              rfl
            rw [hTx] at htk
            have HTk := Aside0.mk htk
            clear hst htk
            clear HSs hi ct HGo HG
            rcases hcase with ⟨e5, e6⟩ | e5
            all_goals
              go_wp2_with (first | (go_at_call 85; (refine (HM.out _).mono ?_); rintro e w3 ⟨rfl, hb⟩; obtain ⟨b1, b2, b3, b4⟩ := boxes_after i k a b hb; have HB1 := Aside0.mk b1; have HB4 := Aside0.mk b4; clear hb b1 b4) | (go_at_call 84; (refine (HRd.out _).mono ?_); rintro e w4 ⟨v4, rfl, hR, hb⟩; obtain ⟨A4, c4, rfl⟩ := Kd.R_slice hR; have HR4 := Aside0.mk (Kd.R_reads' hR); have HO4 := Aside0.mk ((HO.out.keep HB4.out).keep hb); have HI4 := Aside0.mk ((hb.block _ (Array.getElem?_eq_some_iff.1 HB1.out).1).trans HB1.out); clear hR hb) | (go_at_call 86; (refine (any_reads N i _ _ HiN.out.1 HiN.out.2 ⟨_, HO4.out.c⟩ ⟨_, HI4.out⟩ _ _ _ HR4.out.2.2 false HQ.out).mono ?_); rintro e w5 ⟨rfl, ⟨nd, rfl⟩⟩))
              have HO5 := Aside0.mk (HO4.out.keep (pw_below_drewN (Below.refl _ _) nd))
              generalize w4.drewN nd = w5 at *
              clear b2 b3
              obtain ⟨Au, cu, l1, l2, l3, l4⟩ := HO5.out.cells
              have HL4 := Aside0.mk l4
              have HL3 := Aside0.mk l3
              have HL1 := Aside0.mk l1
              have HL2 := Aside0.mk l2
              obtain ⟨i0, hi0, hz0, hz1, hz2⟩ := info_parts info_unit
              have HI0 := Aside0.mk (And.intro hi0 (And.intro hz0 (And.intro hz1 hz2)))
              have HMx := Aside0.mk (show i + 1 ≤ maxLen by unfold maxLen; have := HiN.out; omega)
              have HMb := Aside0.mk (show (i + 1) * 16 ≤ 140737488355328 by have := HiN.out; omega)
              have HSz := Aside0.mk (show w.heap.size + 3 ≤ (w5.alloc (.cells #[.iface T x] 105)).drew.heap.size by show w.heap.size + 3 ≤ (w5.alloc (.cells #[.iface T x] 105)).heap.size; rw [World.size_alloc]; have := HO5.out.size; omega)
              have HBq := Aside0.mk (show Below w5.heap.size w5 (w5.alloc (.cells #[.iface T x] 105)).drew from below_drew1 (below_alloc (Below.refl _ _) _))
              have HB0 := Aside0.mk (show Below (w.heap.size + 3) w5 (w5.alloc (.cells #[.iface T x] 105)).drew from Below.mono HBq.out HO5.out.size)
              have HBa := Aside0.mk (show Below w5.heap.size w5 (w5.alloc (.cells #[.iface T x] 105)) from below_alloc (Below.refl _ _) _)
              have l1a := pw_cell_below HBq.out l1
              have l2a := pw_cell_below HBq.out l2
              have HHs := Aside0.mk (show (w5.alloc (.cells #[.iface T x] 105)).drew.heap.size = w5.heap.size + 1 by show (w5.alloc (.cells #[.iface T x] 105)).heap.size = _; rw [World.size_alloc])
              have HLt4 := Aside0.mk (show w.heap.size + 1 + 1 < w.heap.size + 3 by omega)
              have HLt3 := Aside0.mk (show w.heap.size + 1 < w.heap.size + 3 by omega)
              clear hi0 hz0 hz1 hz2 l3 l4
              go_region_law (first | ((refine gate_op (.call { callee := .builtin .append, args := #[.tmp 68, .tmp 70], argTypes := #[98, 98] }) rfl ?_); (refine step_append_lies _ rfl (.tmp 68) (.tmp 70) 98 rfl (w.heap.size + 3) 105 i0 .nilIface 1 16 Try.underlying98 HI0.out.1 HI0.out.2.1 HI0.out.2.2.1 HI0.out.2.2.2 rfl Nat.one_pos (.slice Au i cu) i ((ls.take i).map unitOf) rfl (own_below HL4.out HBq.out) ⟨w5.heap.size, 0, none⟩ 1 1 [.iface T x] rfl rfl (news_one (cell_new w5 #[.iface T x] 105 0 rfl)) (one_iface T x) Nat.one_pos HMx.out HMb.out HSz.out (w5.heap.size + 1) HHs.out ?_); (intro g9 cap9 w9 hown9 hgrow9 hl9 hlt9; rw [HTk.out] at hown9; have HR9 := Aside0.mk hown9; have HB9 := Aside0.mk (show Below (w.heap.size + 3) w5 w9 from pw_below_grown HB0.out _ HSz.out hgrow9 (own_block HL4.out)); have l9 := (HB9.out.cell (p := ⟨w.heap.size + 1, 3, none⟩) HLt3.out).trans HL2.out; have l8 := (HB9.out.cell (p := ⟨w.heap.size + 1 + 1, 0, none⟩) HLt4.out).trans HL1.out; have f9 := (frozen_at HB9.out (p := ⟨w.heap.size + 1, 3, none⟩) HLt3.out).trans HL3.out; clear hown9 hgrow9 hl9 hlt9)))
              all_goals
                have hO6 := HO5.out.push HB9.out HR9.out
                have HO6 := Aside0.mk hO6
                clear hO6
                go_wp2
                go_roundw
                case rel => exact ⟨i + 1, by rw [w64 (by have := HiN.out; omega) (by have := HiN.out; omega)]; rfl, ⟨HLt.out⟩, HSt, HO6⟩
                case measure => rw [w64 (by have := HiN.out; omega) (by have := HiN.out; omega)]; have := HLt.out; simp [intOf]; omega
      · have HN := Aside0.mk (made_none k a b hk)
        have HF := Aside0.mk (okC_gate (N := N) (os := os) hi (by rw [HSs.out]; unfold gateOk; rw [decide_eq_false hk, Bool.false_and]))
        clear HSs
        clear hk hi ct
        go_wp2_with (go_at_call 85; (refine (HN.out _).mono ?_); rintro e w' ⟨rfl, hb⟩; have HB2 := Aside0.mk hb; clear hb)
        go_ret
        exact ⟨HO.out.b.trans ((below_alloc (below_alloc (Below.refl _ _) _) _).trans (HB2.out.mono (by simp only [World.size_alloc]; have := HO.out.size; omega)) |>.mono (by have := HO.out.size; omega)), .inr ⟨HF.out, rfl⟩⟩
    · have c1b : decide ((i : Int) < (ls.length : Int)) = false := decide_eq_false ct
      have c1c : decide (i < ls.length) = false := decide_eq_false (by omega)
      have hil : i = ls.length := by have := Hi.out; omega
      subst hil
      have HGk := Aside0.mk (gatesOk_of HG.out)
      have HN6 := Aside0.mk (show N ≤ 6 ∧ ls.length ≤ 16 by have := HH.out; omega)
      have hC0 := blkc HO.out.c 2 rfl
      have HCi := Aside0.mk (HO.out.circ HR1.out HC.out.1 HR2.out HC.out.2)
      obtain ⟨q, hq⟩ : ∃ q, os.any (badL (N + ls.length)) = q := ⟨_, rfl⟩
      have HQ := Aside0.mk hq
      have HOk := Aside0.mk (show okC (N : Int) ls os = !q by
        unfold okC
        rw [Int.toNat_natCast, hq, HGk.out, Bool.true_and, decide_eq_true (by have := HH.out; omega), Bool.true_and])
      have HRw := Aside0.mk (Kd.C_below HR2.out HO.out.b)
      have hx0 := blkc HO.out.x 0 rfl
      clear ct hq HG
      cases q with
      | true =>
        go_wp2_with (go_at_call 86; (refine (any_outs _ N _ ls os HN6.out.1 HN6.out.2 HCi.out ⟨_, HO.out.x⟩ _ _ _ HRw.out true HQ.out).mono ?_); rintro e w5 ⟨rfl, ⟨nd, rfl⟩⟩)
        go_ret
        exact ⟨pw_below_drewN HO.out.b _, .inr ⟨HOk.out, rfl⟩⟩
      | false =>
        go_wp2_with (go_at_call 86; (refine (any_outs _ N _ ls os HN6.out.1 HN6.out.2 HCi.out ⟨_, HO.out.x⟩ _ _ _ HRw.out false HQ.out).mono ?_); rintro e w5 ⟨rfl, ⟨nd, rfl⟩⟩)
        go_ret
        exact ⟨pw_below_drewN HO.out.b _, .inl ⟨HOk.out, _, rfl, HCi.out.drewN _⟩⟩
theorem of_bad (n : Int) (ls : List S40) (os : List Int) (A1 : Option Addr) (c1 : Nat) (A2 : Option Addr) (c2 : Nat) (w : World) (h0 : ¬ (1 ≤ n ∧ n ≤ 6 ∧ ls.length ≤ 16 ∧ 1 ≤ os.length ∧ os.length ≤ 4)) :
    Calls Try.prog 54 #[.agg #[.int .i64 n, .slice A1 ls.length c1, .slice A2 os.length c2]] w fun e w' => e = .returned (.pointer none) ∧ Below w.heap.size w w' := by
  have HB := Aside0.mk (Below.refl w.heap.size w)
  by_cases e1 : n < 1
  · have d1 : decide (n < 1) = true := decide_eq_true e1
    clear h0 e1
    go_enter Try.func54, Try.ntmps54
    go_wp2
    go_ret
    exact ⟨rfl, below_alloc HB.out _⟩
  have d1 : decide (n < 1) = false := decide_eq_false e1
  by_cases e2 : 6 < n
  · have d2 : decide (6 < n) = true := decide_eq_true e2
    clear h0 e1 e2
    go_enter Try.func54, Try.ntmps54
    go_wp2
    go_ret
    exact ⟨rfl, below_alloc HB.out _⟩
  have d2 : decide (6 < n) = false := decide_eq_false e2
  by_cases e3 : 16 < (ls.length : Int)
  · have d3 : decide (16 < (ls.length : Int)) = true := decide_eq_true e3
    have d3' : decide (16 < ls.length) = true := decide_eq_true (by omega)
    clear h0 e1 e2 e3
    go_enter Try.func54, Try.ntmps54
    go_wp2
    go_ret
    exact ⟨rfl, below_alloc HB.out _⟩
  have d3 : decide (16 < (ls.length : Int)) = false := decide_eq_false e3
  have d3' : decide (16 < ls.length) = false := decide_eq_false (by omega)
  by_cases e4 : (os.length : Int) < 1
  · have d4 : decide ((os.length : Int) < 1) = true := decide_eq_true e4
    have d4' : decide (os.length < 1) = true := decide_eq_true (by omega)
    clear h0 e1 e2 e3 e4
    go_enter Try.func54, Try.ntmps54
    go_wp2
    go_ret
    exact ⟨rfl, below_alloc HB.out _⟩
  have d4 : decide ((os.length : Int) < 1) = false := decide_eq_false e4
  have d4' : decide (os.length < 1) = false := decide_eq_false (by omega)
  have d5 : decide (4 < (os.length : Int)) = true := decide_eq_true (by omega)
  have d5' : decide (4 < os.length) = true := decide_eq_true (by omega)
  clear h0 e1 e2 e3 e4
  go_enter Try.func54, Try.ntmps54
  go_wp2
  go_ret
  exact ⟨rfl, below_alloc HB.out _⟩
theorem okC_small {n : Int} {ls : List S40} {os : List Int} (h : okC n ls os = true) : 1 ≤ n ∧ n ≤ 6 ∧ ls.length ≤ 16 ∧ 1 ≤ os.length ∧ os.length ≤ 4 := by
  unfold okC at h
  rw [Bool.and_eq_true, decide_eq_true_eq] at h
  exact h.1
theorem of_ok (N : Nat) (ls : List S40) (os : List Int) (A1 : Option Addr) (c1 : Nat) (A2 : Option Addr) (c2 : Nat) (w : World) (h : okC (N : Int) ls os = true) (hr1 : Kd.C k40 w A1 ls.length ls) (hc1 : ls.length ≤ c1) (hr2 : Kd.C (Kd.int .i64) w A2 os.length os) (hc2 : os.length ≤ c2) :
    Calls Try.prog 54 #[.agg #[.int .i64 (N : Int), .slice A1 ls.length c1, .slice A2 os.length c2]] w fun e w' => ∃ g, e = .returned (.pointer (some ⟨g, 0, none⟩)) ∧ CircAt w' g N ls os ∧ Below w.heap.size w w' := by
  have hs := okC_small h
  refine (of_main N ls os A1 c1 A2 c2 w (by omega) hr1 hc1 hr2 hc2).mono ?_
  rintro e w' ⟨hb, ⟨_, g, he, hc⟩ | ⟨hn, _⟩⟩
  · exact ⟨g, he, hc, hb⟩
  · rw [h] at hn; cases hn
theorem of_no (n : Int) (ls : List S40) (os : List Int) (A1 : Option Addr) (c1 : Nat) (A2 : Option Addr) (c2 : Nat) (w : World) (h : okC n ls os = false) (hr1 : Kd.C k40 w A1 ls.length ls) (hc1 : ls.length ≤ c1) (hr2 : Kd.C (Kd.int .i64) w A2 os.length os) (hc2 : os.length ≤ c2) :
    Calls Try.prog 54 #[.agg #[.int .i64 n, .slice A1 ls.length c1, .slice A2 os.length c2]] w fun e w' => e = .returned (.pointer none) ∧ Below w.heap.size w w' := by
  by_cases hs : 1 ≤ n ∧ n ≤ 6 ∧ ls.length ≤ 16 ∧ 1 ≤ os.length ∧ os.length ≤ 4
  · obtain ⟨N, rfl⟩ := Int.eq_ofNat_of_zero_le (show 0 ≤ n by omega)
    refine (of_main N ls os A1 c1 A2 c2 w (by omega) hr1 hc1 hr2 hc2).mono ?_
    rintro e w' ⟨hb, ⟨hn, _⟩ | ⟨_, he⟩⟩
    · rw [h] at hn; cases hn
    · exact ⟨he, hb⟩
  · exact of_bad n ls os A1 c1 A2 c2 w hs
end Go.Proofs.Ytelfalicickelaa.P
set_option linter.unusedSimpArgs false
set_option linter.unusedVariables false
namespace Go.Proofs.Ytelfalicickelaa.P
open Go.Lib Go.RowKit Go.Proofs.YtelfalicickelaaW.PrintWords Go.Proofs.YtelfalicickelaaW.PrintLast Go.Proofs.YtelfalicickelaaW.PrintMore Go.Proofs.Ytelfalicickelaa.Kit
def fI (F : Option Nat) : Int := match F with
  | none => -1
  | some f => (f : Int)
def putW (F : Option Nat) (i x M : Nat) : Nat := (match F with
  | none => x
  | some f => if f / 2 = i then (if f % 2 = 1 then 18446744073709551615 else 0) else x) &&& M
structure LAt (w : World) (g : Nat) (F : Option Nat) (l : List Nat) (W : World) : Prop where
  x : W.heap[w.heap.size]? = some (.cells #[.pointer (some ⟨g, 0, none⟩)] 67 (0, 0))
  f : W.heap[w.heap.size + 1]? = some (.cells #[.int .i64 (fI F)] 3 (0, 0))
  l : ∃ A c, W.heap[w.heap.size + 1 + 1]? = some (.cells #[.slice A l.length c] 72 (0, 0)) ∧ W.ownsRow (w.heap.size + 3) 74 1 (.slice A l.length c) l.length (nums .u64 (nI l))
  b : Below w.heap.size w W
theorem LAt.size {w W : World} {g : Nat} {F : Option Nat} {l : List Nat} (h : LAt w g F l W) : w.heap.size + 3 ≤ W.heap.size := by
  obtain ⟨A, c, h1, _⟩ := h.l
  have := (Array.getElem?_eq_some_iff.1 h1).1
  omega
theorem LAt.keep {w W W' : World} {g : Nat} {F : Option Nat} {l : List Nat} (h : LAt w g F l W) (hb : Below W.heap.size W W') : LAt w g F l W' := by
  have hs := h.size
  obtain ⟨A, c, h1, h2⟩ := h.l
  exact ⟨(hb.block _ (by omega)).trans h.x, (hb.block _ (by omega)).trans h.f, ⟨A, c, (hb.block _ (by omega)).trans h1, own_below h2 hb⟩, h.b.trans (hb.mono (by omega))⟩
theorem LAt.push {w W W9 : World} {g : Nat} {F : Option Nat} {l : List Nat} (h : LAt w g F l W) {A' : Option Addr} {c' n' x : Nat} (hb : Below (w.heap.size + 3) W W9) (hn : n' = (l ++ [x]).length)
    (hr : W9.ownsRow (w.heap.size + 3) 74 1 (.slice A' n' c') n' (nums .u64 (nI (l ++ [x])))) :
    LAt w g F (l ++ [x]) (W9.setCell ⟨w.heap.size + 1 + 1, 0, none⟩ (.slice A' n' c')) := by
  subst hn
  obtain ⟨Au, cu, h1, _⟩ := h.l
  have a1 := (hb.block (w.heap.size + 1 + 1) (by omega)).trans h1
  have hset : ∀ k, k ≠ w.heap.size + 1 + 1 → (W9.setCell ⟨w.heap.size + 1 + 1, 0, none⟩ (.slice A' (l ++ [x]).length c')).heap[k]? = W9.heap[k]? := fun k hk => by
    simp only [World.setCell, Array.getElem?_modify]
    rw [if_neg (fun e => hk e.symm)]
  refine ⟨(hset _ (by omega)).trans ((hb.block _ (by omega)).trans h.x), (hset _ (by omega)).trans ((hb.block _ (by omega)).trans h.f), ⟨A', c', ?_, hr.1, ?_⟩, (h.b.trans (hb.mono (by omega))).setCell (by show w.heap.size ≤ w.heap.size + 1 + 1; omega) _⟩
  · simp only [World.setCell, Array.getElem?_modify, if_true, a1, Option.map_some]
    rfl
  · rcases hr.2 with h3 | ⟨g', cap, cur, e1, e2, e3, e4⟩
    · exact .inl h3
    · exact .inr ⟨g', cap, cur, e1, e2, (hset g' (by omega)).trans e3, e4⟩
theorem LAt.cells {w W : World} {g : Nat} {F : Option Nat} {l : List Nat} (h : LAt w g F l W) :
    ∃ A c, W.cell? ⟨w.heap.size, 0, none⟩ = some (.pointer (some ⟨g, 0, none⟩)) ∧ W.cell? ⟨w.heap.size + 1, 0, none⟩ = some (.int .i64 (fI F)) ∧ W.cell? ⟨w.heap.size + 1 + 1, 0, none⟩ = some (.slice A l.length c) ∧ W.frozen? ⟨w.heap.size + 1 + 1, 0, none⟩ = false ∧ W.ownsRow (w.heap.size + 3) 74 1 (.slice A l.length c) l.length (nums .u64 (nI l)) := by
  obtain ⟨A, c, h1, h2⟩ := h.l
  refine ⟨A, c, blkc h.x 0 rfl, blkc h.f 0 rfl, blkc h1 0 rfl, ?_, h2⟩
  unfold World.frozen?
  rw [h1]
  rfl
theorem fI_none : fI none = -1 := rfl
theorem putW_none (i x M : Nat) : putW none i x M = x &&& M := rfl
theorem putW_other {f i : Nat} (x M : Nat) (h : f / 2 ≠ i) : putW (some f) i x M = x &&& M := by unfold putW; dsimp only; rw [if_neg h]
theorem putW_hit {f i : Nat} (x M : Nat) (h : f / 2 = i) : putW (some f) i x M = (if f % 2 = 1 then 18446744073709551615 else 0) &&& M := by unfold putW; dsimp only; rw [if_pos h]
theorem nI_snoc (l : List Nat) (x : Nat) : nI (l ++ [x]) = nI l ++ [(x : Int)] := by simp [nI]
theorem nums_snoc (k : IntKind) (l : List Int) (x : Int) : nums k (l ++ [x]) = nums k l ++ [.int k x] := by simp [nums]
theorem info_word : (Try.prog.info? 74).map (fun i => (i.zero, i.size, i.bytes)) = some (some (.int .u64 0), 1, 8) := by kernel_rfl
theorem one_word (k : IntKind) (x : Int) : ∀ u ∈ [Value.int k x], u.oneCell' = true := by
  intro u hu
  have hu2 := List.mem_singleton.1 hu
  subst hu2
  rfl
set_option maxHeartbeats 8000000
set_option maxRecDepth 100000
theorem all_lt {N : Nat} (hN : N ≤ 6) : 2 ^ 2 ^ N - 1 < 18446744073709551616 := by
  have : 2 ^ 2 ^ N ≤ 2 ^ 64 := Nat.pow_le_pow_right (by decide) (by
    have : 2 ^ N ≤ 2 ^ 6 := Nat.pow_le_pow_right (by decide) hN
    simpa using this)
  have h2 : 2 ^ 2 ^ N > 0 := Nat.two_pow_pos _
  omega
theorem add_none {w : World} {g N : Nat} {ls : List S40} {os : List Int}  (l : List Nat) (x : Nat) (W : World) (hC : CircAt w g N ls os) (hN : N ≤ 6) (hx : x < 18446744073709551616) (hl : l.length ≤ 22) (h : LAt w g none l W)  :
    Calls Try.prog 89 #[.int .u64 (x : Int), .pointer (some ⟨w.heap.size + 1, 0, none⟩), .pointer (some ⟨w.heap.size + 1 + 1, 0, none⟩), .pointer (some ⟨w.heap.size, 0, none⟩)] W fun e w' => e = .returned (.tuple #[]) ∧ LAt w g none (l ++ [putW none l.length x (2 ^ 2 ^ N - 1)]) w' := by
  have hM := all_lt hN
  have HA := Aside0.mk (fun W' (hb : Below w.heap.size w W') => all_calls (hC.keep hb) hN)
  obtain ⟨M, hMe⟩ : ∃ M, 2 ^ 2 ^ N - 1 = M := ⟨_, rfl⟩
  rw [hMe] at HA hM ⊢
  have HB := Aside0.mk h.b
  have HL := Aside0.mk h
  obtain ⟨Au, cu, l0, lf, l2, l3, l4⟩ := h.cells
  have HL4 := Aside0.mk l4
  have HL2 := Aside0.mk l2
  have HL3 := Aside0.mk l3
  rw [fI_none] at lf
  have hput : putW none l.length x M = x &&& M := putW_none _ _ _
  have hy : x < 18446744073709551616 := hx
  obtain ⟨i0, hi0, hz0, hz1, hz2⟩ := info_parts info_word
  have HI0 := Aside0.mk (And.intro hi0 (And.intro hz0 (And.intro hz1 hz2)))
  have HMx := Aside0.mk (show l.length + 1 ≤ maxLen by unfold maxLen; omega)
  have HMb := Aside0.mk (show (l.length + 1) * 8 ≤ 140737488355328 by omega)
  have HSz := Aside0.mk h.size
  have HLn := Aside0.mk (show l.length + 1 = (l ++ [x &&& M]).length by simp)
  have HTk := Aside0.mk (show nums .u64 (nI l) ++ [.int .u64 ((x &&& M : Nat) : Int)] = nums .u64 (nI (l ++ [x &&& M])) by rw [nI_snoc, nums_snoc])
  have HLt3 := Aside0.mk (show w.heap.size + 1 + 1 < w.heap.size + 3 by omega)
  rw [hput]
  have hand := andu64 (x) M hy hM
  have HAnd := Aside0.mk hand
  have k1 : ∀ n, (W.drewN n).cell? ⟨w.heap.size + 1 + 1, 0, none⟩ = some (.slice Au l.length cu) := fun _ => l2
  have k2 : ∀ n o, ((W.drewN n).alloc o).cell? ⟨w.heap.size + 1 + 1, 0, none⟩ = some (.slice Au l.length cu) := fun n o => pw_cell_below (below_alloc (Below.refl _ _) _) (k1 n)
  have k3 : ∀ n, (W.drewN n).cell? ⟨w.heap.size, 0, none⟩ = some (.pointer (some ⟨g, 0, none⟩)) := fun _ => l0
  have HBx := Aside0.mk (fun n => show Below W.heap.size W ((W.drewN n).alloc (.cells #[.int .u64 (Go.bits .and .u64 (x : Nat) (M : Nat))] 74)) from below_alloc (pw_below_drewN (Below.refl _ _) n) _)
  have HSx := Aside0.mk (fun n => show w.heap.size + 3 ≤ ((W.drewN n).alloc (.cells #[.int .u64 (Go.bits .and .u64 (x : Nat) (M : Nat))] 74)).heap.size by rw [World.size_alloc]; have := HSz.out; show _ ≤ W.heap.size + 1; omega)
  have HHs := Aside0.mk (fun n => show ((W.drewN n).alloc (.cells #[.int .u64 (Go.bits .and .u64 (x : Nat) (M : Nat))] 74)).heap.size = W.heap.size + 1 by rw [World.size_alloc]; rfl)
  clear hC hN hx hl h l3 l4 hi0 hz0 hz1 hz2 hput hM hMe hy hand
  go_enter Try.func89, Try.ntmps89
  go_wp2
  go_region_law (first | (refine gate_op (.call { callee := .value (.func 63), args := #[.tmp 20], argTypes := #[67] }) rfl ?_; go_simp; (first | go_at_call 63 | skip); (refine (HA.out _ (by repeat (first | exact HB.out | apply pw_below_drewN | apply below_drew1))).mono ?_); rintro e w2 ⟨rfl, ⟨nd, rfl⟩⟩) | ((refine gate_op (.call { callee := .builtin .append, args := #[.tmp 18, .tmp 23], argTypes := #[72, 72] }) rfl ?_); (refine step_append_lies _ rfl (.tmp 18) (.tmp 23) 72 rfl (w.heap.size + 3) 74 i0 (.int .u64 0) 1 8 Try.underlying72 HI0.out.1 HI0.out.2.1 HI0.out.2.2.1 HI0.out.2.2.2 rfl Nat.one_pos (.slice Au l.length cu) l.length (nums .u64 (nI l)) rfl (own_below HL4.out (HBx.out _)) ⟨W.heap.size, 0, none⟩ 1 1 [.int .u64 (Go.bits .and .u64 (x : Nat) (M : Nat))] rfl rfl (news_one (cell_new (W.drewN (1 + nd)) #[.int .u64 (Go.bits .and .u64 (x : Nat) (M : Nat))] 74 0 rfl)) (one_word .u64 _) Nat.one_pos HMx.out HMb.out (HSx.out _) (W.heap.size + 1) (HHs.out _) ?_); intro g9 cap9 w9 hown9 hgrow9 hl9 hlt9; rw [HAnd.out, HTk.out] at hown9; have HR9 := Aside0.mk hown9; have HB9 := Aside0.mk (show Below (w.heap.size + 3) W w9 from pw_below_grown (Below.mono (HBx.out _) HSz.out) _ (HSx.out _) hgrow9 (own_block HL4.out)); have l9 := (HB9.out.cell (p := ⟨w.heap.size + 1 + 1, 0, none⟩) HLt3.out).trans HL2.out; have f9 := (frozen_at HB9.out (p := ⟨w.heap.size + 1 + 1, 0, none⟩) HLt3.out).trans HL3.out; clear hown9 hgrow9 hl9 hlt9))
  all_goals
    go_end0
    exact ⟨rfl, HL.out.push HB9.out HLn.out HR9.out⟩
theorem add_other {w : World} {g N : Nat} {ls : List S40} {os : List Int} (f : Nat) (l : List Nat) (x : Nat) (W : World) (hC : CircAt w g N ls os) (hN : N ≤ 6) (hx : x < 18446744073709551616) (hl : l.length ≤ 22) (h : LAt w g (some f) l W) (hF : f / 2 ≠ l.length) (hf : f ≤ 100) :
    Calls Try.prog 89 #[.int .u64 (x : Int), .pointer (some ⟨w.heap.size + 1, 0, none⟩), .pointer (some ⟨w.heap.size + 1 + 1, 0, none⟩), .pointer (some ⟨w.heap.size, 0, none⟩)] W fun e w' => e = .returned (.tuple #[]) ∧ LAt w g (some f) (l ++ [putW (some f) l.length x (2 ^ 2 ^ N - 1)]) w' := by
  have hM := all_lt hN
  have HA := Aside0.mk (fun W' (hb : Below w.heap.size w W') => all_calls (hC.keep hb) hN)
  obtain ⟨M, hMe⟩ : ∃ M, 2 ^ 2 ^ N - 1 = M := ⟨_, rfl⟩
  rw [hMe] at HA hM ⊢
  have HB := Aside0.mk h.b
  have HL := Aside0.mk h
  obtain ⟨Au, cu, l0, lf, l2, l3, l4⟩ := h.cells
  have HL4 := Aside0.mk l4
  have HL2 := Aside0.mk l2
  have HL3 := Aside0.mk l3
  rw [show fI (some f) = (f : Int) from rfl] at lf
  have hput : putW (some f) l.length x M = x &&& M := putW_other _ _ hF
  have hy : x < 18446744073709551616 := hx
  have e1 : ((f : Int) != -1) = true := bne_iff_ne.2 (by omega)
  have e3 : (wrap64 ((f : Int) / 2) == (l.length : Int)) = false := by rw [w64 (by omega) (by omega)]; exact beq_eq_false_iff_ne.2 (by omega)
  clear hF hf
  obtain ⟨i0, hi0, hz0, hz1, hz2⟩ := info_parts info_word
  have HI0 := Aside0.mk (And.intro hi0 (And.intro hz0 (And.intro hz1 hz2)))
  have HMx := Aside0.mk (show l.length + 1 ≤ maxLen by unfold maxLen; omega)
  have HMb := Aside0.mk (show (l.length + 1) * 8 ≤ 140737488355328 by omega)
  have HSz := Aside0.mk h.size
  have HLn := Aside0.mk (show l.length + 1 = (l ++ [x &&& M]).length by simp)
  have HTk := Aside0.mk (show nums .u64 (nI l) ++ [.int .u64 ((x &&& M : Nat) : Int)] = nums .u64 (nI (l ++ [x &&& M])) by rw [nI_snoc, nums_snoc])
  have HLt3 := Aside0.mk (show w.heap.size + 1 + 1 < w.heap.size + 3 by omega)
  rw [hput]
  have hand := andu64 (x) M hy hM
  have HAnd := Aside0.mk hand
  have k1 : ∀ n, (W.drewN n).cell? ⟨w.heap.size + 1 + 1, 0, none⟩ = some (.slice Au l.length cu) := fun _ => l2
  have k2 : ∀ n o, ((W.drewN n).alloc o).cell? ⟨w.heap.size + 1 + 1, 0, none⟩ = some (.slice Au l.length cu) := fun n o => pw_cell_below (below_alloc (Below.refl _ _) _) (k1 n)
  have k3 : ∀ n, (W.drewN n).cell? ⟨w.heap.size, 0, none⟩ = some (.pointer (some ⟨g, 0, none⟩)) := fun _ => l0
  have HBx := Aside0.mk (fun n => show Below W.heap.size W ((W.drewN n).alloc (.cells #[.int .u64 (Go.bits .and .u64 (x : Nat) (M : Nat))] 74)) from below_alloc (pw_below_drewN (Below.refl _ _) n) _)
  have HSx := Aside0.mk (fun n => show w.heap.size + 3 ≤ ((W.drewN n).alloc (.cells #[.int .u64 (Go.bits .and .u64 (x : Nat) (M : Nat))] 74)).heap.size by rw [World.size_alloc]; have := HSz.out; show _ ≤ W.heap.size + 1; omega)
  have HHs := Aside0.mk (fun n => show ((W.drewN n).alloc (.cells #[.int .u64 (Go.bits .and .u64 (x : Nat) (M : Nat))] 74)).heap.size = W.heap.size + 1 by rw [World.size_alloc]; rfl)
  clear hC hN hx hl h l3 l4 hi0 hz0 hz1 hz2 hput hM hMe hy hand
  go_enter Try.func89, Try.ntmps89
  go_wp2
  go_region_law (first | (refine gate_op (.call { callee := .value (.func 63), args := #[.tmp 20], argTypes := #[67] }) rfl ?_; go_simp; (first | go_at_call 63 | skip); (refine (HA.out _ (by repeat (first | exact HB.out | apply pw_below_drewN | apply below_drew1))).mono ?_); rintro e w2 ⟨rfl, ⟨nd, rfl⟩⟩) | ((refine gate_op (.call { callee := .builtin .append, args := #[.tmp 18, .tmp 23], argTypes := #[72, 72] }) rfl ?_); (refine step_append_lies _ rfl (.tmp 18) (.tmp 23) 72 rfl (w.heap.size + 3) 74 i0 (.int .u64 0) 1 8 Try.underlying72 HI0.out.1 HI0.out.2.1 HI0.out.2.2.1 HI0.out.2.2.2 rfl Nat.one_pos (.slice Au l.length cu) l.length (nums .u64 (nI l)) rfl (own_below HL4.out (HBx.out _)) ⟨W.heap.size, 0, none⟩ 1 1 [.int .u64 (Go.bits .and .u64 (x : Nat) (M : Nat))] rfl rfl (news_one (cell_new (W.drewN (1 + nd)) #[.int .u64 (Go.bits .and .u64 (x : Nat) (M : Nat))] 74 0 rfl)) (one_word .u64 _) Nat.one_pos HMx.out HMb.out (HSx.out _) (W.heap.size + 1) (HHs.out _) ?_); intro g9 cap9 w9 hown9 hgrow9 hl9 hlt9; rw [HAnd.out, HTk.out] at hown9; have HR9 := Aside0.mk hown9; have HB9 := Aside0.mk (show Below (w.heap.size + 3) W w9 from pw_below_grown (Below.mono (HBx.out _) HSz.out) _ (HSx.out _) hgrow9 (own_block HL4.out)); have l9 := (HB9.out.cell (p := ⟨w.heap.size + 1 + 1, 0, none⟩) HLt3.out).trans HL2.out; have f9 := (frozen_at HB9.out (p := ⟨w.heap.size + 1 + 1, 0, none⟩) HLt3.out).trans HL3.out; clear hown9 hgrow9 hl9 hlt9))
  all_goals
    go_end0
    exact ⟨rfl, HL.out.push HB9.out HLn.out HR9.out⟩
theorem add_zero {w : World} {g N : Nat} {ls : List S40} {os : List Int} (f : Nat) (l : List Nat) (x : Nat) (W : World) (hC : CircAt w g N ls os) (hN : N ≤ 6) (hx : x < 18446744073709551616) (hl : l.length ≤ 22) (h : LAt w g (some f) l W) (hF : f / 2 = l.length) (hf : f ≤ 100) (h2 : f % 2 = 0) :
    Calls Try.prog 89 #[.int .u64 (x : Int), .pointer (some ⟨w.heap.size + 1, 0, none⟩), .pointer (some ⟨w.heap.size + 1 + 1, 0, none⟩), .pointer (some ⟨w.heap.size, 0, none⟩)] W fun e w' => e = .returned (.tuple #[]) ∧ LAt w g (some f) (l ++ [putW (some f) l.length x (2 ^ 2 ^ N - 1)]) w' := by
  have hM := all_lt hN
  have HA := Aside0.mk (fun W' (hb : Below w.heap.size w W') => all_calls (hC.keep hb) hN)
  obtain ⟨M, hMe⟩ : ∃ M, 2 ^ 2 ^ N - 1 = M := ⟨_, rfl⟩
  rw [hMe] at HA hM ⊢
  have HB := Aside0.mk h.b
  have HL := Aside0.mk h
  obtain ⟨Au, cu, l0, lf, l2, l3, l4⟩ := h.cells
  have HL4 := Aside0.mk l4
  have HL2 := Aside0.mk l2
  have HL3 := Aside0.mk l3
  rw [show fI (some f) = (f : Int) from rfl] at lf
  have hput : putW (some f) l.length x M = 0 &&& M := by rw [putW_hit _ _ hF, if_neg (by omega)]
  have hy : (0 : Nat) < 18446744073709551616 := by decide
  have e1 : ((f : Int) != -1) = true := bne_iff_ne.2 (by omega)
  have e3 : (wrap64 ((f : Int) / 2) == (l.length : Int)) = true := by rw [w64 (by omega) (by omega)]; exact beq_iff_eq.2 (by omega)
  have e4 : IntKind.u64.wrap (-((f : Int) % 2)) = 0 := by rw [show (f : Int) % 2 = 0 by omega]; decide
  clear hF hf h2
  obtain ⟨i0, hi0, hz0, hz1, hz2⟩ := info_parts info_word
  have HI0 := Aside0.mk (And.intro hi0 (And.intro hz0 (And.intro hz1 hz2)))
  have HMx := Aside0.mk (show l.length + 1 ≤ maxLen by unfold maxLen; omega)
  have HMb := Aside0.mk (show (l.length + 1) * 8 ≤ 140737488355328 by omega)
  have HSz := Aside0.mk h.size
  have HLn := Aside0.mk (show l.length + 1 = (l ++ [0 &&& M]).length by simp)
  have HTk := Aside0.mk (show nums .u64 (nI l) ++ [.int .u64 ((0 &&& M : Nat) : Int)] = nums .u64 (nI (l ++ [0 &&& M])) by rw [nI_snoc, nums_snoc])
  have HLt3 := Aside0.mk (show w.heap.size + 1 + 1 < w.heap.size + 3 by omega)
  rw [hput]
  have hand := andu64 (0) M hy hM
  have HAnd := Aside0.mk hand
  have k1 : ∀ n, (W.drewN n).cell? ⟨w.heap.size + 1 + 1, 0, none⟩ = some (.slice Au l.length cu) := fun _ => l2
  have k2 : ∀ n o, ((W.drewN n).alloc o).cell? ⟨w.heap.size + 1 + 1, 0, none⟩ = some (.slice Au l.length cu) := fun n o => pw_cell_below (below_alloc (Below.refl _ _) _) (k1 n)
  have k3 : ∀ n, (W.drewN n).cell? ⟨w.heap.size, 0, none⟩ = some (.pointer (some ⟨g, 0, none⟩)) := fun _ => l0
  have HBx := Aside0.mk (fun n => show Below W.heap.size W ((W.drewN n).alloc (.cells #[.int .u64 (Go.bits .and .u64 (0 : Nat) (M : Nat))] 74)) from below_alloc (pw_below_drewN (Below.refl _ _) n) _)
  have HSx := Aside0.mk (fun n => show w.heap.size + 3 ≤ ((W.drewN n).alloc (.cells #[.int .u64 (Go.bits .and .u64 (0 : Nat) (M : Nat))] 74)).heap.size by rw [World.size_alloc]; have := HSz.out; show _ ≤ W.heap.size + 1; omega)
  have HHs := Aside0.mk (fun n => show ((W.drewN n).alloc (.cells #[.int .u64 (Go.bits .and .u64 (0 : Nat) (M : Nat))] 74)).heap.size = W.heap.size + 1 by rw [World.size_alloc]; rfl)
  clear hC hN hx hl h l3 l4 hi0 hz0 hz1 hz2 hput hM hMe hy hand
  go_enter Try.func89, Try.ntmps89
  go_wp2
  go_region_law (first | (refine gate_op (.call { callee := .value (.func 63), args := #[.tmp 20], argTypes := #[67] }) rfl ?_; go_simp; (first | go_at_call 63 | skip); (refine (HA.out _ (by repeat (first | exact HB.out | apply pw_below_drewN | apply below_drew1))).mono ?_); rintro e w2 ⟨rfl, ⟨nd, rfl⟩⟩) | ((refine gate_op (.call { callee := .builtin .append, args := #[.tmp 18, .tmp 23], argTypes := #[72, 72] }) rfl ?_); (refine step_append_lies _ rfl (.tmp 18) (.tmp 23) 72 rfl (w.heap.size + 3) 74 i0 (.int .u64 0) 1 8 Try.underlying72 HI0.out.1 HI0.out.2.1 HI0.out.2.2.1 HI0.out.2.2.2 rfl Nat.one_pos (.slice Au l.length cu) l.length (nums .u64 (nI l)) rfl (own_below HL4.out (HBx.out _)) ⟨W.heap.size, 0, none⟩ 1 1 [.int .u64 (Go.bits .and .u64 (0 : Nat) (M : Nat))] rfl rfl (news_one (cell_new (W.drewN (1 + nd)) #[.int .u64 (Go.bits .and .u64 (0 : Nat) (M : Nat))] 74 0 rfl)) (one_word .u64 _) Nat.one_pos HMx.out HMb.out (HSx.out _) (W.heap.size + 1) (HHs.out _) ?_); intro g9 cap9 w9 hown9 hgrow9 hl9 hlt9; rw [HAnd.out, HTk.out] at hown9; have HR9 := Aside0.mk hown9; have HB9 := Aside0.mk (show Below (w.heap.size + 3) W w9 from pw_below_grown (Below.mono (HBx.out _) HSz.out) _ (HSx.out _) hgrow9 (own_block HL4.out)); have l9 := (HB9.out.cell (p := ⟨w.heap.size + 1 + 1, 0, none⟩) HLt3.out).trans HL2.out; have f9 := (frozen_at HB9.out (p := ⟨w.heap.size + 1 + 1, 0, none⟩) HLt3.out).trans HL3.out; clear hown9 hgrow9 hl9 hlt9))
  all_goals
    go_end0
    exact ⟨rfl, HL.out.push HB9.out HLn.out HR9.out⟩
theorem add_one {w : World} {g N : Nat} {ls : List S40} {os : List Int} (f : Nat) (l : List Nat) (x : Nat) (W : World) (hC : CircAt w g N ls os) (hN : N ≤ 6) (hx : x < 18446744073709551616) (hl : l.length ≤ 22) (h : LAt w g (some f) l W) (hF : f / 2 = l.length) (hf : f ≤ 100) (h2 : f % 2 = 1) :
    Calls Try.prog 89 #[.int .u64 (x : Int), .pointer (some ⟨w.heap.size + 1, 0, none⟩), .pointer (some ⟨w.heap.size + 1 + 1, 0, none⟩), .pointer (some ⟨w.heap.size, 0, none⟩)] W fun e w' => e = .returned (.tuple #[]) ∧ LAt w g (some f) (l ++ [putW (some f) l.length x (2 ^ 2 ^ N - 1)]) w' := by
  have hM := all_lt hN
  have HA := Aside0.mk (fun W' (hb : Below w.heap.size w W') => all_calls (hC.keep hb) hN)
  obtain ⟨M, hMe⟩ : ∃ M, 2 ^ 2 ^ N - 1 = M := ⟨_, rfl⟩
  rw [hMe] at HA hM ⊢
  have HB := Aside0.mk h.b
  have HL := Aside0.mk h
  obtain ⟨Au, cu, l0, lf, l2, l3, l4⟩ := h.cells
  have HL4 := Aside0.mk l4
  have HL2 := Aside0.mk l2
  have HL3 := Aside0.mk l3
  rw [show fI (some f) = (f : Int) from rfl] at lf
  have hput : putW (some f) l.length x M = 18446744073709551615 &&& M := by rw [putW_hit _ _ hF, if_pos h2]
  have hy : (18446744073709551615 : Nat) < 18446744073709551616 := by decide
  have e1 : ((f : Int) != -1) = true := bne_iff_ne.2 (by omega)
  have e3 : (wrap64 ((f : Int) / 2) == (l.length : Int)) = true := by rw [w64 (by omega) (by omega)]; exact beq_iff_eq.2 (by omega)
  have e4 : IntKind.u64.wrap (-((f : Int) % 2)) = 18446744073709551615 := by rw [show (f : Int) % 2 = 1 by omega]; decide
  clear hF hf h2
  obtain ⟨i0, hi0, hz0, hz1, hz2⟩ := info_parts info_word
  have HI0 := Aside0.mk (And.intro hi0 (And.intro hz0 (And.intro hz1 hz2)))
  have HMx := Aside0.mk (show l.length + 1 ≤ maxLen by unfold maxLen; omega)
  have HMb := Aside0.mk (show (l.length + 1) * 8 ≤ 140737488355328 by omega)
  have HSz := Aside0.mk h.size
  have HLn := Aside0.mk (show l.length + 1 = (l ++ [18446744073709551615 &&& M]).length by simp)
  have HTk := Aside0.mk (show nums .u64 (nI l) ++ [.int .u64 ((18446744073709551615 &&& M : Nat) : Int)] = nums .u64 (nI (l ++ [18446744073709551615 &&& M])) by rw [nI_snoc, nums_snoc])
  have HLt3 := Aside0.mk (show w.heap.size + 1 + 1 < w.heap.size + 3 by omega)
  rw [hput]
  have hand := andu64 (18446744073709551615) M hy hM
  have HAnd := Aside0.mk hand
  have k1 : ∀ n, (W.drewN n).cell? ⟨w.heap.size + 1 + 1, 0, none⟩ = some (.slice Au l.length cu) := fun _ => l2
  have k2 : ∀ n o, ((W.drewN n).alloc o).cell? ⟨w.heap.size + 1 + 1, 0, none⟩ = some (.slice Au l.length cu) := fun n o => pw_cell_below (below_alloc (Below.refl _ _) _) (k1 n)
  have k3 : ∀ n, (W.drewN n).cell? ⟨w.heap.size, 0, none⟩ = some (.pointer (some ⟨g, 0, none⟩)) := fun _ => l0
  have HBx := Aside0.mk (fun n => show Below W.heap.size W ((W.drewN n).alloc (.cells #[.int .u64 (Go.bits .and .u64 (18446744073709551615 : Nat) (M : Nat))] 74)) from below_alloc (pw_below_drewN (Below.refl _ _) n) _)
  have HSx := Aside0.mk (fun n => show w.heap.size + 3 ≤ ((W.drewN n).alloc (.cells #[.int .u64 (Go.bits .and .u64 (18446744073709551615 : Nat) (M : Nat))] 74)).heap.size by rw [World.size_alloc]; have := HSz.out; show _ ≤ W.heap.size + 1; omega)
  have HHs := Aside0.mk (fun n => show ((W.drewN n).alloc (.cells #[.int .u64 (Go.bits .and .u64 (18446744073709551615 : Nat) (M : Nat))] 74)).heap.size = W.heap.size + 1 by rw [World.size_alloc]; rfl)
  clear hC hN hx hl h l3 l4 hi0 hz0 hz1 hz2 hput hM hMe hy hand
  go_enter Try.func89, Try.ntmps89
  go_wp2
  go_region_law (first | (refine gate_op (.call { callee := .value (.func 63), args := #[.tmp 20], argTypes := #[67] }) rfl ?_; go_simp; (first | go_at_call 63 | skip); (refine (HA.out _ (by repeat (first | exact HB.out | apply pw_below_drewN | apply below_drew1))).mono ?_); rintro e w2 ⟨rfl, ⟨nd, rfl⟩⟩) | ((refine gate_op (.call { callee := .builtin .append, args := #[.tmp 18, .tmp 23], argTypes := #[72, 72] }) rfl ?_); (refine step_append_lies _ rfl (.tmp 18) (.tmp 23) 72 rfl (w.heap.size + 3) 74 i0 (.int .u64 0) 1 8 Try.underlying72 HI0.out.1 HI0.out.2.1 HI0.out.2.2.1 HI0.out.2.2.2 rfl Nat.one_pos (.slice Au l.length cu) l.length (nums .u64 (nI l)) rfl (own_below HL4.out (HBx.out _)) ⟨W.heap.size, 0, none⟩ 1 1 [.int .u64 (Go.bits .and .u64 (18446744073709551615 : Nat) (M : Nat))] rfl rfl (news_one (cell_new (W.drewN (1 + nd)) #[.int .u64 (Go.bits .and .u64 (18446744073709551615 : Nat) (M : Nat))] 74 0 rfl)) (one_word .u64 _) Nat.one_pos HMx.out HMb.out (HSx.out _) (W.heap.size + 1) (HHs.out _) ?_); intro g9 cap9 w9 hown9 hgrow9 hl9 hlt9; rw [HAnd.out, HTk.out] at hown9; have HR9 := Aside0.mk hown9; have HB9 := Aside0.mk (show Below (w.heap.size + 3) W w9 from pw_below_grown (Below.mono (HBx.out _) HSz.out) _ (HSx.out _) hgrow9 (own_block HL4.out)); have l9 := (HB9.out.cell (p := ⟨w.heap.size + 1 + 1, 0, none⟩) HLt3.out).trans HL2.out; have f9 := (frozen_at HB9.out (p := ⟨w.heap.size + 1 + 1, 0, none⟩) HLt3.out).trans HL3.out; clear hown9 hgrow9 hl9 hlt9))
  all_goals
    go_end0
    exact ⟨rfl, HL.out.push HB9.out HLn.out HR9.out⟩
theorem add_calls {w : World} {g N : Nat} {ls : List S40} {os : List Int} (F : Option Nat) (l : List Nat) (x : Nat) (W : World) (hC : CircAt w g N ls os) (hN : N ≤ 6) (hx : x < 18446744073709551616) (hl : l.length ≤ 22) (hF : ∀ f, F = some f → f ≤ 100) (h : LAt w g F l W) :
    Calls Try.prog 89 #[.int .u64 (x : Int), .pointer (some ⟨w.heap.size + 1, 0, none⟩), .pointer (some ⟨w.heap.size + 1 + 1, 0, none⟩), .pointer (some ⟨w.heap.size, 0, none⟩)] W fun e w' => e = .returned (.tuple #[]) ∧ LAt w g F (l ++ [putW F l.length x (2 ^ 2 ^ N - 1)]) w' := by
  cases F with
  | none => exact add_none l x W hC hN hx hl h
  | some f =>
    have hf := hF f rfl
    by_cases h1 : f / 2 = l.length
    · rcases Nat.mod_two_eq_zero_or_one f with h2 | h2
      · exact add_zero f l x W hC hN hx hl h h1 hf h2
      · exact add_one f l x W hC hN hx hl h h1 hf h2
    · exact add_other f l x W hC hN hx hl h h1 hf
end Go.Proofs.Ytelfalicickelaa.P
set_option linter.unusedSimpArgs false
set_option linter.unusedVariables false
namespace Go.Proofs.Ytelfalicickelaa.P
open Go.Lib Go.RowKit Go.Proofs.YtelfalicickelaaW.PrintWords Go.Proofs.YtelfalicickelaaW.PrintLast Go.Proofs.YtelfalicickelaaW.PrintMore Go.Proofs.Ytelfalicickelaa.Kit
def toG (s : S40) : GT.G := ⟨s.f0.toNat, s.f1.toNat, s.f2.toNat⟩
def toC (N : Nat) (ls : List S40) (os : List Int) : GT.C := ⟨N, ls.map toG, os.map Int.toNat⟩
theorem readsL_ok {N i : Nat} {k a b : Int} (h : (readsL k a b).any (badL (N + i)) = false) : (0 ≤ a ∧ a < ((N + i : Nat) : Int)) ∧ (k ≠ 5 → 0 ≤ b ∧ b < ((N + i : Nat) : Int)) := by
  unfold readsL at h
  by_cases hk : k = 5
  · rw [if_pos hk] at h
    simp [badL] at h
    exact ⟨by omega, fun e => absurd hk e⟩
  · rw [if_neg hk] at h
    simp [badL] at h
    exact ⟨by omega, fun _ => by omega⟩
theorem gate_nat {N i : Nat} {s : S40} (hN : 1 ≤ N) (h : gateOk N i s = true) : ∃ k a b : Nat, s = ⟨(k : Int), (a : Int), (b : Int)⟩ ∧ k ≤ 5 ∧ a < N + i ∧ b < N + i ∧ (k = 5 → b = 0) := by
  obtain ⟨k, a, b⟩ := s
  unfold gateOk at h
  rw [Bool.and_eq_true, Bool.and_eq_true, decide_eq_true_eq] at h
  obtain ⟨h1, h2, h3⟩ := h
  have h4 := readsL_ok (N := N) (i := i) (k := k) (a := a) (b := b) (by simpa using h3)
  simp at h1 h2
  by_cases hk : k = 5
  · have hb : b = 0 := h2.resolve_left (fun e => e hk)
    refine ⟨k.toNat, a.toNat, b.toNat, ?_, by omega, by omega, by omega, by omega⟩
    have e1 : ((k.toNat : Nat) : Int) = k := by omega
    have e2 : ((a.toNat : Nat) : Int) = a := by omega
    have e3 : ((b.toNat : Nat) : Int) = b := by omega
    rw [e1, e2, e3]
  · have hb := h4.2 hk
    refine ⟨k.toNat, a.toNat, b.toNat, ?_, by omega, by omega, by omega, by omega⟩
    have e1 : ((k.toNat : Nat) : Int) = k := by omega
    have e2 : ((a.toNat : Nat) : Int) = a := by omega
    have e3 : ((b.toNat : Nat) : Int) = b := by omega
    rw [e1, e2, e3]
theorem okC_gates {N : Nat} {ls : List S40} {os : List Int} (h : okC (N : Int) ls os = true) : gatesOk N ls = true ∧ os.any (badL (N + ls.length)) = false := by
  unfold okC at h
  rw [Bool.and_eq_true, Bool.and_eq_true, Int.toNat_natCast] at h
  exact ⟨h.2.1, by simpa using h.2.2⟩
theorem out_nat {N : Nat} {ls : List S40} {os : List Int} (h : okC (N : Int) ls os = true) {o : Int} (ho : o ∈ os) : 0 ≤ o ∧ o < ((N + ls.length : Nat) : Int) := by
  have h2 := (okC_gates h).2
  rw [List.any_eq_false] at h2
  have := h2 o ho
  simp [badL] at this
  omega
theorem okC_ok {N : Nat} {ls : List S40} {os : List Int} (h : okC (N : Int) ls os = true) : GT.Ok (toC N ls os) := by
  have hs := okC_small h
  refine ⟨by show 1 ≤ N; omega, by show N ≤ 6; omega, by show (List.map _ _).length ≤ 16; rw [List.length_map]; omega, by show 1 ≤ (List.map _ _).length; rw [List.length_map]; omega, by show (List.map _ _).length ≤ 4; rw [List.length_map]; omega, fun i hi => ?_, fun x hx => ?_⟩
  · have hi' : i < ls.length := by simpa [toC] using hi
    obtain ⟨k, a, b, e, h1, h2, h3, h4⟩ := gate_nat (by omega) (gatesOk_at (okC_gates h).1 hi')
    have e2 : (toC N ls os).gs[i] = ⟨k, a, b⟩ := by simp [toC, e, toG]
    rw [e2]
    exact ⟨h1, h2, h3, h4⟩
  · obtain ⟨o, ho, rfl⟩ := List.mem_map.1 hx
    have := out_nat h ho
    show o.toNat < N + (List.map _ _).length
    rw [List.length_map]
    omega
def inW (i v : Nat) : Nat := GT.num ((List.range v).map fun u => u.testBit i)
theorem inW_lt (i v : Nat) : inW i v < 2 ^ v := by
  have := GT.num_lt ((List.range v).map fun u => u.testBit i)
  simpa [inW] using this
theorem inW_succ (i v : Nat) : inW i (v + 1) = inW i v ||| (v / 2 ^ i % 2) * 2 ^ v := by
  have h1 : inW i (v + 1) = inW i v + (v.testBit i).toNat * 2 ^ v := by
    unfold inW
    rw [List.range_succ, List.map_append, List.map_cons, List.map_nil, GT.num_append]
    simp
  have h2 : (v.testBit i).toNat = v / 2 ^ i % 2 := by
    rw [Nat.testBit_eq_decide_div_mod_eq]
    rcases Nat.mod_two_eq_zero_or_one (v / 2 ^ i) with e | e <;> simp [e]
  rw [h1, h2]
  have h3 := Nat.two_pow_add_eq_or_of_lt (inW_lt i v) (v / 2 ^ i % 2)
  rw [Nat.mul_comm (2 ^ v), Nat.add_comm] at h3
  rw [h3, Nat.or_comm]
theorem ones_bit (v : Nat) (h : v < 64) : (18446744073709551615 : Nat).testBit v = true := by
  have : (18446744073709551615 : Nat) = 2 ^ 64 - 1 := by decide
  rw [this, Nat.testBit_two_pow_sub_one]
  simpa using h
theorem pow6 {N : Nat} (hN : N ≤ 6) : 2 ^ N ≤ 64 := by
  have : 2 ^ N ≤ 2 ^ 6 := Nat.pow_le_pow_right (by decide) hN
  simpa using this
theorem putW_bit {N : Nat} (hN : N ≤ 6) (F : Option Nat) (i x v : Nat) : (putW F i x (2 ^ 2 ^ N - 1)).testBit v = (decide (v < 2 ^ N) && GT.put F i (x.testBit v)) := by
  unfold putW
  rw [Nat.testBit_and, Nat.testBit_two_pow_sub_one, Bool.and_comm]
  by_cases hv : v < 2 ^ N
  · have h64 : v < 64 := Nat.lt_of_lt_of_le hv (pow6 hN)
    cases F with
    | none => rfl
    | some f =>
      dsimp only
      by_cases h1 : f / 2 = i
      · rw [if_pos h1, GT.put_pos _ h1]
        rcases Nat.mod_two_eq_zero_or_one f with e | e
        · rw [e]; simp
        · rw [e, if_pos rfl, ones_bit v h64]; simp
      · rw [if_neg h1, GT.put_neg _ h1]
  · simp [hv]
theorem wline_in {N : Nat} (hN : N ≤ 6) (ls : List S40) (os : List Int) (F : Option Nat) {j : Nat} (hj : j < N) : putW F j (inW j (2 ^ N)) (2 ^ 2 ^ N - 1) = GT.wline (toC N ls os) F j := by
  refine GT.nat_ext fun v => ?_
  rw [putW_bit hN]
  unfold GT.wline
  rw [GT.wd_bit]
  show _ = (decide (v < 2 ^ N) && (GT.vals (toC N ls os) F v).getD j false)
  rw [GT.vals_in (toC N ls os) F v hj]
  by_cases hv : v < 2 ^ N
  · unfold inW
    rw [GT.num_bit]
    simp [List.getD_eq_getElem?_getD, hv]
  · simp [hv]
def gwW (k x y : Nat) : Nat :=
  match k with
  | 0 => x &&& y
  | 1 => x ||| y
  | 2 => x ^^^ y
  | 3 => 18446744073709551615 ^^^ (x &&& y)
  | 4 => 18446744073709551615 ^^^ (x ||| y)
  | _ => 18446744073709551615 ^^^ x
theorem gwW_bit (k x y v : Nat) (hv : v < 64) : (gwW k x y).testBit v = GT.gv k (x.testBit v) (y.testBit v) := by
  unfold gwW GT.gv
  split <;> simp only [Nat.testBit_and, Nat.testBit_or, Nat.testBit_xor, ones_bit v hv, Bool.true_xor]
theorem wline_gate {N : Nat} {ls : List S40} {os : List Int} (h : okC (N : Int) ls os = true) (F : Option Nat) {i k a b : Nat} (hi : i < ls.length) (hs : ls[i] = ⟨(k : Int), (a : Int), (b : Int)⟩) :
    putW F (N + i) (gwW k (GT.wline (toC N ls os) F a) (GT.wline (toC N ls os) F b)) (2 ^ 2 ^ N - 1) = GT.wline (toC N ls os) F (N + i) := by
  have hN := (okC_small h).2.1
  have hok := okC_ok h
  refine GT.nat_ext fun v => ?_
  rw [putW_bit (by omega)]
  have hi' : i < (toC N ls os).gs.length := by simp [toC, hi]
  have e : (toC N ls os).gs[i] = ⟨k, a, b⟩ := by simp [toC, hs, toG]
  have hg := GT.vals_gate hok F v hi'
  rw [e] at hg
  unfold GT.wline
  rw [GT.wd_bit]
  show _ = (decide (v < 2 ^ N) && (GT.vals (toC N ls os) F v).getD (N + i) false)
  rw [show (GT.vals (toC N ls os) F v).getD (N + i) false = _ from hg]
  by_cases hv : v < 2 ^ N
  · have h64 : v < 64 := Nat.lt_of_lt_of_le hv (pow6 (by omega))
    rw [gwW_bit _ _ _ _ h64, GT.wd_bit, GT.wd_bit]
    show _ = (decide (v < 2 ^ N) && GT.put F (N + i) _)
    rw [show decide (v < 2 ^ (toC N ls os).n) = true from decide_eq_true hv, Bool.true_and, Bool.true_and]
  · simp [hv]
theorem pow64_le {N : Nat} (hN : N ≤ 6) : 2 ^ 2 ^ N ≤ 18446744073709551616 := by
  have : 2 ^ 2 ^ N ≤ 2 ^ 64 := Nat.pow_le_pow_right (by decide) (pow6 hN)
  simpa using this
theorem wline_lt64 {N : Nat} (hN : N ≤ 6) (ls : List S40) (os : List Int) (F : Option Nat) (j : Nat) : GT.wline (toC N ls os) F j < 18446744073709551616 := Nat.lt_of_lt_of_le (GT.wline_lt _ _ _) (pow64_le hN)
theorem words_W64 {N : Nat} (hN : N ≤ 6) (ls : List S40) (os : List Int) (F : Option Nat) (i : Nat) : W64 (GT.words (toC N ls os) F i) := by
  intro j
  by_cases h : j < i
  · rw [GT.words_get _ _ h]; exact wline_lt64 hN _ _ _ _
  · rw [List.getD_eq_getElem?_getD, List.getElem?_eq_none (by simp [GT.words]; omega)]
    decide
theorem inW_lt64 {N : Nat} (hN : N ≤ 6) (i v : Nat) (hv : v ≤ 2 ^ N) : inW i v < 18446744073709551616 := by
  have h1 : 2 ^ v ≤ 2 ^ 64 := Nat.pow_le_pow_right (by decide) (Nat.le_trans hv (pow6 hN))
  have h2 := inW_lt i v
  have h3 : (2 : Nat) ^ 64 = 18446744073709551616 := by decide
  omega
theorem gwW_lt64 {k x y : Nat} (hx : x < 18446744073709551616) (hy : y < 18446744073709551616) : gwW k x y < 18446744073709551616 := by
  have h64 : (18446744073709551616 : Nat) = 2 ^ 64 := by decide
  have hm : (18446744073709551615 : Nat) < 2 ^ 64 := by decide
  rw [h64] at hx hy ⊢
  unfold gwW
  split
  · exact Nat.lt_of_le_of_lt Nat.and_le_left hx
  · exact Nat.or_lt_two_pow hx hy
  · exact Nat.xor_lt_two_pow hx hy
  · exact Nat.xor_lt_two_pow hm (Nat.lt_of_le_of_lt Nat.and_le_left hx)
  · exact Nat.xor_lt_two_pow hm (Nat.or_lt_two_pow hx hy)
  · exact Nat.xor_lt_two_pow hm hx
end Go.Proofs.Ytelfalicickelaa.P
