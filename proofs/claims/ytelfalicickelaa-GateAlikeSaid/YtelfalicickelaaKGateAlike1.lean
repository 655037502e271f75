/- Texts of this claim, merged by a program (shake.py): what the last theorems reach of QRow, GateN6, Pf27. -/
import Derived.Deep.Slices
import Derived.Deep.Strs
import Derived.OpenShut
import Derived.ProofKit
import Derived.Lib.SmallJoins
import Derived.Test.YtelfalicickelaaKB1
set_option linter.unusedSimpArgs false
set_option linter.unusedVariables false
set_option maxRecDepth 100000
namespace Go.Proofs.Ytelfalicickelaa.P
open Go.Lib Go.RowKit Go.ChangeShapes Go.WideShapes Go.ChangeAt Go.Joins Go.Proofs.YtelfalicickelaaW.PrintWords Go.Proofs.YtelfalicickelaaW.PrintLast Go.Proofs.YtelfalicickelaaW.PrintMore
theorem C_scalar {k : IntKind} {w : World} {a : Addr} {zs : List Int} (hl : zs.length ≤ 9223372036854775807) (hc : ∀ i, (h : i < zs.length) → w.cell? (a.add i) = some (.int k zs[i])) : Kd.C (Kd.int k) w (some a) zs.length zs := by
  refine ⟨rfl, hl, fun _ => ⟨a, rfl, fun j p hp => ?_⟩⟩
  obtain ⟨hj, rfl⟩ := List.getElem?_eq_some_iff.1 hp
  refine ⟨[.int k zs[j]], rfl, rfl, fun i u hu => ?_⟩
  cases i with
  | zero =>
    have h1 : u = .int k zs[j] := by simpa using hu.symm
    subst h1
    have h2 : j * (Kd.int k).sz + 0 = j := by show j * 1 + 0 = j; omega
    rw [h2]
    exact hc j hj
  | succ i => simp at hu
theorem C_nil {α : Type} (d : Kd α) (w : World) (A : Option Addr) : Kd.C d w A ([] : List α).length [] := ⟨rfl, by simp, fun h => by simp at h⟩
theorem ints_open {H : Type} {enc : TypeId × Value → H} {k : IntKind} {t e : TypeId} (ht : Try.prog.underlying t = some (.slice e)) (he : Try.prog.underlying e = some (.int k)) (hc1 : Try.prog.cellsOf e = 1) {w : World} {base : Nat} {held : Bool} {fuel : Nat} {A : Option Addr} {len cap : Nat} {x : DataW H × List MemPlace}
    (h : DataW.trod enc Try.prog w base (fun _ => true) held fuel t (Value.slice A len cap).cells.toList = some x) : ∃ z : List Int, z.length = len ∧ Kd.C (Kd.int k) w A len z ∧ len ≤ cap ∧ ∀ n, n ∈ z → (Lit.int k n).wf = true := by
  rcases open_ints ht he hc1 h with ⟨hcs, _⟩ | ⟨a, l, c, zs, hcs, _, hl, hm, hz, _, hcell, hwz⟩
  · simp [Value.cells] at hcs
    obtain ⟨rfl, rfl, rfl⟩ := hcs
    exact ⟨[], rfl, C_nil _ _ _, Nat.le_refl _, fun n h => by simp at h⟩
  · simp [Value.cells] at hcs
    obtain ⟨rfl, rfl, rfl⟩ := hcs
    have hzl : zs.length = cap := by simpa using hz
    have ht : (zs.take len).length = len := by rw [List.length_take]; omega
    refine ⟨zs.take len, ht, ?_, hl, fun n hn => hwz n (List.mem_of_mem_take hn)⟩
    have := C_scalar (k := k) (w := w) (a := a) (zs := zs.take len) (by rw [ht]; unfold maxLen at hm; omega) (fun i hi => by
      have h1 := hcell i (by rw [List.length_take] at hi; omega)
      rw [h1]
      rw [List.length_take] at hi
      simp [List.getD_eq_getElem?_getD, List.getElem?_eq_getElem (show i < zs.length by omega)])
    rw [ht] at this
    exact this
theorem gates_open {H : Type} {enc : TypeId × Value → H} {w : World} {base : Nat} {held : Bool} {fuel : Nat} {A : Option Addr} {len cap : Nat} {x : DataW H × List MemPlace}
    (h : DataW.trod enc Try.prog w base (fun _ => true) held fuel 22 (Value.slice A len cap).cells.toList = some x) : ∃ z : List S40, z.length = len ∧ Kd.C k40 w A len z ∧ len ≤ cap := by
  rcases Go.Deep.open_slice Try.underlying22 h with ⟨hcs, _⟩ | ⟨a, l, c, m, n, D, Pl, hcs, _, hl, hm, hmm, _, hx⟩
  · simp [Value.cells] at hcs
    obtain ⟨rfl, rfl, rfl⟩ := hcs
    exact ⟨[], rfl, C_nil _ _ _, Nat.le_refl _⟩
  · simp [Value.cells] at hcs
    obtain ⟨rfl, rfl, rfl⟩ := hcs
    have hce : Try.prog.cellsOf 40 = 3 := by kernel_rfl
    have hmc : m = cap := by simpa using hmm
    have each : ∀ i, i < cap → ∃ q : S40, w.cell? (a.add (i * 3)) = some (.int .i64 q.f0) ∧ w.cell? (a.add (i * 3 + 1)) = some (.int .i64 q.f1) ∧ w.cell? (a.add (i * 3 + 2)) = some (.int .i64 q.f2) := by
      intro i hi
      obtain ⟨cs', h1, h2⟩ := hx i (by omega)
      rw [hce] at h1
      obtain ⟨_, hlen, hcell⟩ := World.cells?_some h1
      obtain ⟨y0, y1, y2, n', _, _, g0, g1, g2⟩ := Go.Deep.trod_struct3 Try.underlying40 h2
      match cs', hlen with
      | [v0, v1, v2], _ =>
        have e0 := hcell 0 (by omega)
        have e1 := hcell 1 (by omega)
        have e2 := hcell 2 (by omega)
        rw [Go.Deep.add_add] at e0 e1 e2
        have hc1 : Try.prog.cellsOf 3 = 1 := by kernel_rfl
        simp only [hc1] at g0 g1 g2
        obtain ⟨n0, c0, _, _⟩ := DataW.trod_int Try.underlying3 g0
        obtain ⟨n1, c1, _, _⟩ := DataW.trod_int Try.underlying3 g1
        obtain ⟨n2, c2, _, _⟩ := DataW.trod_int Try.underlying3 g2
        simp at c0 c1 c2
        subst c0 c1 c2
        exact ⟨⟨n0, n1, n2⟩, by simpa using e0, by simpa using e1, by simpa using e2⟩
    haveI : Inhabited S40 := ⟨z40⟩
    obtain ⟨f, hf⟩ := Go.Deep.choose_lt each
    have hzl : ((List.range len).map f).length = len := by simp
    refine ⟨(List.range len).map f, hzl, ⟨hzl, by unfold maxLen at hm; omega, fun _ => ⟨a, rfl, fun j p hp => ?_⟩⟩, hl⟩
    obtain ⟨hj, rfl⟩ := List.getElem?_eq_some_iff.1 hp
    have hj' : j < len := by simpa using hj
    rw [List.getElem_map, List.getElem_range]
    obtain ⟨h0, h1, h2⟩ := hf j (by omega)
    refine ⟨_, rfl, k40_mk w (f j), fun i u hu => ?_⟩
    have hsz : j * (k40).sz + i = j * 3 + i := rfl
    rw [hsz]
    match i, hu with
    | 0, hu => have e : u = .int .i64 (f j).f0 := by simpa using hu.symm
               rw [e]; exact h0
    | 1, hu => have e : u = .int .i64 (f j).f1 := by simpa using hu.symm
               rw [e]; exact h1
    | 2, hu => have e : u = .int .i64 (f j).f2 := by simpa using hu.symm
               rw [e]; exact h2
    | i + 3, hu => simp at hu
theorem slice_of {H : Type} {enc : TypeId × Value → H} {t e : TypeId} (ht : Try.prog.underlying t = some (.slice e)) {w : World} {base : Nat} {held : Bool} {fuel : Nat} {v : Value} {x : DataW H × List MemPlace}
    (h : DataW.trod enc Try.prog w base (fun _ => true) held fuel t [v] = some x) : ∃ A len cap, v = .slice A len cap := by
  rcases Go.Deep.open_slice ht h with ⟨hcs, _⟩ | ⟨a, l, c, m, n, D, Pl, hcs, _⟩
  · exact ⟨none, 0, 0, by simpa using hcs⟩
  · exact ⟨some a, l, c, by simpa using hcs⟩
theorem circuit_open {b0 : Nat} {H : Type} {enc : TypeId × Value → H} {w : World} {r : Reach} {base : Nat} {held : Bool} {v : Value} {d : DataW H} {p : List MemPlace} (hv : Value.okWide Try.prog w r b0 25 v)
    (h : DataW.Trod enc Try.prog w base (fun _ => true) held 25 v d p) :
    ∃ (n : Int) (A1 : Option Addr) (c1 : Nat) (l1 : List S40) (A2 : Option Addr) (c2 : Nat) (l2 : List Int), v = .agg #[.int .i64 n, .slice A1 l1.length c1, .slice A2 l2.length c2] ∧
      Kd.C k40 w A1 l1.length l1 ∧ l1.length ≤ c1 ∧ Kd.C (Kd.int .i64) w A2 l2.length l2 ∧ l2.length ≤ c2 ∧ (Lit.int .i64 n).wf = true := by
  obtain ⟨v0, v1, v2, y0, y1, y2, n, rfl, _, _, h0, h1, h2⟩ := open_agg3 Try.underlying25 (by kernel_rfl) (by kernel_rfl) hv h
  obtain ⟨m, hm, _, hw⟩ := DataW.trod_int Try.underlying3 h0
  obtain ⟨A1, n1, c1, rfl⟩ := slice_of Try.underlying22 h1
  obtain ⟨A2, n2, c2, rfl⟩ := slice_of Try.underlying23 h2
  obtain ⟨z1, e1, g1, g2⟩ := gates_open (len := n1) (cap := c1) (A := A1) (by simpa [Value.cells] using h1)
  obtain ⟨z2, e2, g3, g4, _⟩ := ints_open Try.underlying23 Try.underlying3 (by kernel_rfl) (len := n2) (cap := c2) (A := A2) (by simpa [Value.cells] using h2)
  subst e1 e2
  have hm' : v0 = .int .i64 m := by simpa using hm
  subst hm'
  exact ⟨m, A1, c1, z1, A2, c2, z2, rfl, g1, g2, g3, g4, hw⟩
end Go.Proofs.Ytelfalicickelaa.P
namespace Go.Proofs.Ytelfalicickelaa.GT
def place {β : Type} [DecidableEq β] (κ : Nat → β) : List (List Nat) → Nat → List (List Nat)
  | [], f => [[f]]
  | g :: t, f => if κ (g.headD 0) = κ f then (g ++ [f]) :: t else g :: place κ t f
def groups {β : Type} [DecidableEq β] (κ : Nat → β) : Nat → List (List Nat)
  | 0 => []
  | n + 1 => place κ (groups κ n) n
def OkG {β : Type} [DecidableEq β] (κ : Nat → β) (n : Nat) (g : List Nat) : Prop := g ≠ [] ∧ g = (List.range n).filter fun x => decide (κ x = κ (g.headD 0))
def Heads {β : Type} (κ : Nat → β) (gs : List (List Nat)) : Prop := gs.Pairwise fun g h => κ (g.headD 0) ≠ κ (h.headD 0)
theorem headD_append {g : List Nat} (h : g ≠ []) (l : List Nat) : (g ++ l).headD 0 = g.headD 0 := by
  cases g with
  | nil => exact absurd rfl h
  | cons a t => rfl
theorem OkG.next {β : Type} [DecidableEq β] {κ : Nat → β} {n : Nat} {g : List Nat} (h : OkG κ n g) (hn : κ (g.headD 0) ≠ κ n) : OkG κ (n + 1) g := by
  refine ⟨h.1, ?_⟩
  rw [List.range_succ, List.filter_append, List.filter_cons_of_neg (fun e => hn (of_decide_eq_true e).symm), List.filter_nil, List.append_nil]
  exact h.2
theorem OkG.push {β : Type} [DecidableEq β] {κ : Nat → β} {n : Nat} {g : List Nat} (h : OkG κ n g) (hn : κ (g.headD 0) = κ n) : OkG κ (n + 1) (g ++ [n]) := by
  refine ⟨by simp, ?_⟩
  rw [headD_append h.1, List.range_succ, List.filter_append, List.filter_cons_of_pos (p := fun x => decide (κ x = κ (g.headD 0))) (decide_eq_true hn.symm), List.filter_nil]
  exact congrArg (· ++ [n]) h.2
theorem place_spec {β : Type} [DecidableEq β] (κ : Nat → β) (n : Nat) : ∀ gs : List (List Nat), (∀ g, g ∈ gs → OkG κ n g) → Heads κ gs → (∀ x, x < n → κ x = κ n → ∃ g, g ∈ gs ∧ κ (g.headD 0) = κ n) →
    (∀ g, g ∈ place κ gs n → OkG κ (n + 1) g) ∧ Heads κ (place κ gs n) ∧ (∀ g, g ∈ gs → ∃ g', g' ∈ place κ gs n ∧ κ (g'.headD 0) = κ (g.headD 0)) ∧ (∃ g, g ∈ place κ gs n ∧ κ (g.headD 0) = κ n) ∧
    ((place κ gs n).map List.length).sum = (gs.map List.length).sum + 1 ∧ (∀ h, h ∈ place κ gs n → κ (h.headD 0) = κ n ∨ ∃ g, g ∈ gs ∧ κ (g.headD 0) = κ (h.headD 0))
  | [], _, _, h3 => by
    refine ⟨fun g hg => ?_, List.pairwise_singleton _ _, fun g hg => by simp at hg, ⟨[n], by simp [place], rfl⟩, rfl, fun h hh => .inl ?_⟩
    · have : g = [n] := by simpa [place] using hg
      subst this
      refine ⟨by simp, ?_⟩
      rw [List.range_succ, List.filter_append, List.filter_cons_of_pos (by simp), List.filter_nil, List.filter_eq_nil_iff.2 (fun x hx => ?_)]
      · rfl
      · intro e
        obtain ⟨g, hg, _⟩ := h3 x (List.mem_range.1 hx) (by simpa using e)
        simp at hg
    · have : h = [n] := by simpa [place] using hh
      subst this
      rfl
  | g :: t, h1, h2, h3 => by
    have h1t : ∀ g, g ∈ t → OkG κ n g := fun g hg => h1 g (List.mem_cons_of_mem _ hg)
    have hg := h1 g List.mem_cons_self
    have h2' := List.pairwise_cons.1 h2
    by_cases hk : κ (g.headD 0) = κ n
    · have e : place κ (g :: t) n = (g ++ [n]) :: t := by unfold place; rw [if_pos hk]
      rw [e]
      have hh := headD_append hg.1 [n]
      refine ⟨fun x hx => ?_, List.pairwise_cons.2 ⟨fun x hx => by rw [hh]; exact h2'.1 x hx, h2'.2⟩, fun x hx => ?_, ⟨g ++ [n], List.mem_cons_self, by rw [hh]; exact hk⟩, by simp; omega, fun x hx => ?_⟩
      · rcases List.mem_cons.1 hx with e | hx
        · rw [e]; exact hg.push hk
        · exact (h1t x hx).next (fun e => h2'.1 x hx (hk.trans e.symm))
      · rcases List.mem_cons.1 hx with e | hx
        · exact ⟨g ++ [n], List.mem_cons_self, by rw [hh, e]⟩
        · exact ⟨x, List.mem_cons_of_mem _ hx, rfl⟩
      · rcases List.mem_cons.1 hx with e | hx
        · left; rw [e, hh]; exact hk
        · exact .inr ⟨x, List.mem_cons_of_mem _ hx, rfl⟩
    · have e : place κ (g :: t) n = g :: place κ t n := by rw [place, if_neg hk]
      obtain ⟨a1, a2, a3, a4, a5, a6⟩ := place_spec κ n t h1t h2'.2 (fun x hx hx2 => by
        obtain ⟨y, hy, hy2⟩ := h3 x hx hx2
        rcases List.mem_cons.1 hy with e | hy
        · rw [e] at hy2; exact absurd hy2 hk
        · exact ⟨y, hy, hy2⟩)
      rw [e]
      refine ⟨fun x hx => ?_, List.pairwise_cons.2 ⟨fun x hx => ?_, a2⟩, fun x hx => ?_, ?_, by simp [a5]; omega, fun x hx => ?_⟩
      · rcases List.mem_cons.1 hx with e | hx
        · rw [e]; exact hg.next hk
        · exact a1 x hx
      · rcases a6 x hx with h | ⟨y, hy, hy2⟩
        · rw [h]; exact hk
        · rw [← hy2]; exact h2'.1 y hy
      · rcases List.mem_cons.1 hx with e | hx
        · exact ⟨g, List.mem_cons_self, by rw [e]⟩
        · obtain ⟨y, hy, hy2⟩ := a3 x hx
          exact ⟨y, List.mem_cons_of_mem _ hy, hy2⟩
      · obtain ⟨y, hy, hy2⟩ := a4
        exact ⟨y, List.mem_cons_of_mem _ hy, hy2⟩
      · rcases List.mem_cons.1 hx with e | hx
        · exact .inr ⟨g, List.mem_cons_self, by rw [e]⟩
        · rcases a6 x hx with h | ⟨y, hy, hy2⟩
          · exact .inl h
          · exact .inr ⟨y, List.mem_cons_of_mem _ hy, hy2⟩
structure Grouped {β : Type} [DecidableEq β] (κ : Nat → β) (n : Nat) (gs : List (List Nat)) : Prop where
  ok : ∀ g, g ∈ gs → OkG κ n g
  heads : Heads κ gs
  all : ∀ x, x < n → ∃ g, g ∈ gs ∧ κ (g.headD 0) = κ x
  sum : (gs.map List.length).sum = n
theorem groups_spec {β : Type} [DecidableEq β] (κ : Nat → β) : ∀ n, Grouped κ n (groups κ n)
  | 0 => ⟨fun g h => by simp [groups] at h, List.Pairwise.nil, fun x h => absurd h (by omega), rfl⟩
  | n + 1 => by
    have h := groups_spec κ n
    obtain ⟨a1, a2, a3, a4, a5, a6⟩ := place_spec κ n (groups κ n) h.ok h.heads (fun x hx e => by
      obtain ⟨g, hg, hk⟩ := h.all x hx
      exact ⟨g, hg, hk.trans e⟩)
    refine ⟨a1, a2, fun x hx => ?_, by rw [show groups κ (n + 1) = place κ (groups κ n) n from rfl, a5, h.sum]⟩
    by_cases e : x = n
    · rw [e]; exact a4
    · obtain ⟨g, hg, hk⟩ := h.all x (by omega)
      obtain ⟨g', hg', hk'⟩ := a3 g hg
      exact ⟨g', hg', hk'.trans hk⟩
theorem Grouped.mem {β : Type} [DecidableEq β] {κ : Nat → β} {n : Nat} {gs : List (List Nat)} (h : Grouped κ n gs) {g : List Nat} (hg : g ∈ gs) {x : Nat} : x ∈ g ↔ x < n ∧ κ x = κ (g.headD 0) := by
  have h1 := (h.ok g hg).2
  constructor
  · intro hx
    rw [h1] at hx
    have := List.mem_filter.1 hx
    exact ⟨List.mem_range.1 this.1, by simpa using this.2⟩
  · intro hx
    rw [h1]
    exact List.mem_filter.2 ⟨List.mem_range.2 hx.1, by simpa using hx.2⟩
end Go.Proofs.Ytelfalicickelaa.GT
namespace Go.Proofs.Ytelfalicickelaa.P
open Go.RowKit Go.Proofs.YtelfalicickelaaW.PrintWords Go.Proofs.YtelfalicickelaaW.PrintLast Go.Proofs.YtelfalicickelaaW.PrintMore
attribute [local go_sem] max2_int max_two
set_option linter.unusedVariables false
set_option linter.unusedSimpArgs false
def neonwrightref07_Lines.f (a0_0 : Int) (l0_1 : List (S40)) (l0_2 : List Int) : Option (Int) := some (wrap64 (a0_0 + (l0_1.length : Int)))
set_option maxHeartbeats 8000000 in
set_option maxRecDepth 100000 in
theorem neonwrightref07_Lines.calls (a0_0 : Int) (A0_1 : Option Addr) (c0_1 : Nat) (l0_1 : List (S40)) (A0_2 : Option Addr) (c0_2 : Nat) (l0_2 : List Int) (r : Int) (w : World) (hr0_1 : Kd.C k40 w A0_1 l0_1.length l0_1) (hc0_1 : l0_1.length ≤ c0_1) (hr0_2 : Kd.C (Kd.int .i64) w A0_2 l0_2.length l0_2) (hc0_2 : l0_2.length ≤ c0_2) (h : neonwrightref07_Lines.f a0_0 l0_1 l0_2 = some r) :
    Calls Try.prog 27 #[.agg #[.int .i64 a0_0, .slice A0_1 l0_1.length c0_1, .slice A0_2 l0_2.length c0_2]] w fun e w' => e = .returned (.int .i64 r) ∧ Below w.heap.size w w' := by
  have hu25 := Try.underlying25
  have HR0_1 := Aside0.mk hr0_1
  have HC0_1 := Aside0.mk hc0_1
  clear hr0_1 hc0_1
  have HR0_2 := Aside0.mk hr0_2
  have HC0_2 := Aside0.mk hc0_2
  clear hr0_2 hc0_2
  have HB := Aside0.mk (Below.refl w.heap.size w)
  have H : (some (wrap64 (a0_0 + (l0_1.length : Int)))) = some r := h
  clear h
  obtain rfl := Option.some.inj H
  go_enter Try.func27, Try.ntmps27
  go_wp2_with (first | ((with_reducible refine gate_dst (N := 1) rfl ?_); refine box_event ?hg (N := 1) ?hd (cs := #[.int .i64 a0_0, .slice A0_1 l0_1.length c0_1, .slice A0_2 l0_2.length c0_2]) (t := 25) ?hr ?_; (case hd => rfl); (case hg => rfl); (case hr => first | (go_simp; done) | (go_simp; rfl)); intro gb123 hg w2 hbox hb; have n0_ := Aside0.mk (below_step (by repeat (first | (with_reducible first | exact HB.out | apply below_alloc | apply pw_below_drewN | apply below_drew1) | exact HB.out)) hb); have n1_ := Aside0.mk (hbox); have n2_ := Aside0.mk ((by rw [hg]; exact (below_size (by repeat (first | (with_reducible first | exact HB.out | apply below_alloc | apply pw_below_drewN | apply below_drew1) | exact HB.out))) : w.heap.size ≤ gb123)); have n3_ := Aside0.mk ((by rw [hg]; exact (below_size (by repeat (first | (with_reducible first | exact HB.out | apply below_alloc | apply pw_below_drewN | apply below_drew1) | exact HB.out))) : w.heap.size ≤ gb123)); clear HB; have HB := n0_; have BK123 := n1_; have GW123 := n2_; have GE123 := n3_; clear n0_ n1_ n2_ n3_; clear hb hbox hg; have hcz3_0 : w2.cell? ⟨gb123, 0, none⟩ = some (.int .i64 a0_0) := (blk_cell BK123.out 0).trans rfl; have hcz3_1 : w2.cell? ⟨gb123, 1, none⟩ = some (.slice A0_1 l0_1.length c0_1) := (blk_cell BK123.out 1).trans rfl; have hcz3_2 : w2.cell? ⟨gb123, 2, none⟩ = some (.slice A0_2 l0_2.length c0_2) := (blk_cell BK123.out 2).trans rfl; have hfz3_0 := blk_frozen BK123.out 0; have hfz3_1 := blk_frozen BK123.out 1; have hfz3_2 := blk_frozen BK123.out 2))
  go_ret
  exact ⟨by first | rfl | (simp [errW_none, errW_some] <;> rfl) | (simp [*, errW_none, errW_some] <;> rfl), by repeat (first | (with_reducible first | exact HB.out | apply below_alloc | apply pw_below_drewN | apply below_drew1 | refine below_set ?_ GE123.out) | exact HB.out)⟩
end Go.Proofs.Ytelfalicickelaa.P
