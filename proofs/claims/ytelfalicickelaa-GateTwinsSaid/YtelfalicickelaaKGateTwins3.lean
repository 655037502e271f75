/- Texts of this claim, merged by a program (shake.py): what the last theorems reach of GateN6, RBase, RHas, RAlk, GateN2, RTwin, PureGateTwins. -/
import Derived.Test.YtelfalicickelaaKB2
import Derived.Test.YtelfalicickelaaKB3
import Derived.Test.YtelfalicickelaaKB1
import Derived.Test.YtelfalicickelaaKGateTwins1
import Derived.Test.YtelfalicickelaaKB8
import Derived.Test.YtelfalicickelaaKB7
import Derived.Test.YtelfalicickelaaKGateTwins2
namespace Go.Proofs.Ytelfalicickelaa.GT
def place {β : Type} [DecidableEq β] (κ : Nat → β) : List (List Nat) → Nat → List (List Nat)
  | [], f => [[f]]
  | g :: t, f => if κ (g.headD 0) = κ f then (g ++ [f]) :: t else g :: place κ t f
def groups {β : Type} [DecidableEq β] (κ : Nat → β) : Nat → List (List Nat)
  | 0 => []
  | n + 1 => place κ (groups κ n) n
def OkG {β : Type} [DecidableEq β] (κ : Nat → β) (n : Nat) (g : List Nat) : Prop := g ≠ [] ∧ g = (List.range n).filter fun x => decide (κ x = κ (g.headD 0))
def Heads {β : Type} (κ : Nat → β) (gs : List (List Nat)) : Prop := gs.Pairwise fun g h => κ (g.headD 0) ≠ κ (h.headD 0)
theorem headD_append {g : List Nat} (h : g ≠ []) (l : List Nat) : (g ++ l).headD 0 = g.headD 0 := by
  cases g with
  | nil => exact absurd rfl h
  | cons a t => rfl
theorem OkG.next {β : Type} [DecidableEq β] {κ : Nat → β} {n : Nat} {g : List Nat} (h : OkG κ n g) (hn : κ (g.headD 0) ≠ κ n) : OkG κ (n + 1) g := by
  refine ⟨h.1, ?_⟩
  rw [List.range_succ, List.filter_append, List.filter_cons_of_neg (fun e => hn (of_decide_eq_true e).symm), List.filter_nil, List.append_nil]
  exact h.2
theorem OkG.push {β : Type} [DecidableEq β] {κ : Nat → β} {n : Nat} {g : List Nat} (h : OkG κ n g) (hn : κ (g.headD 0) = κ n) : OkG κ (n + 1) (g ++ [n]) := by
  refine ⟨by simp, ?_⟩
  rw [headD_append h.1, List.range_succ, List.filter_append, List.filter_cons_of_pos (p := fun x => decide (κ x = κ (g.headD 0))) (decide_eq_true hn.symm), List.filter_nil]
  exact congrArg (· ++ [n]) h.2
theorem place_spec {β : Type} [DecidableEq β] (κ : Nat → β) (n : Nat) : ∀ gs : List (List Nat), (∀ g, g ∈ gs → OkG κ n g) → Heads κ gs → (∀ x, x < n → κ x = κ n → ∃ g, g ∈ gs ∧ κ (g.headD 0) = κ n) →
    (∀ g, g ∈ place κ gs n → OkG κ (n + 1) g) ∧ Heads κ (place κ gs n) ∧ (∀ g, g ∈ gs → ∃ g', g' ∈ place κ gs n ∧ κ (g'.headD 0) = κ (g.headD 0)) ∧ (∃ g, g ∈ place κ gs n ∧ κ (g.headD 0) = κ n) ∧
    ((place κ gs n).map List.length).sum = (gs.map List.length).sum + 1 ∧ (∀ h, h ∈ place κ gs n → κ (h.headD 0) = κ n ∨ ∃ g, g ∈ gs ∧ κ (g.headD 0) = κ (h.headD 0))
  | [], _, _, h3 => by
    refine ⟨fun g hg => ?_, List.pairwise_singleton _ _, fun g hg => by simp at hg, ⟨[n], by simp [place], rfl⟩, rfl, fun h hh => .inl ?_⟩
    · have : g = [n] := by simpa [place] using hg
      subst this
      refine ⟨by simp, ?_⟩
      rw [List.range_succ, List.filter_append, List.filter_cons_of_pos (by simp), List.filter_nil, List.filter_eq_nil_iff.2 (fun x hx => ?_)]
      · rfl
      · intro e
        obtain ⟨g, hg, _⟩ := h3 x (List.mem_range.1 hx) (by simpa using e)
        simp at hg
    · have : h = [n] := by simpa [place] using hh
      subst this
      rfl
  | g :: t, h1, h2, h3 => by
    have h1t : ∀ g, g ∈ t → OkG κ n g := fun g hg => h1 g (List.mem_cons_of_mem _ hg)
    have hg := h1 g List.mem_cons_self
    have h2' := List.pairwise_cons.1 h2
    by_cases hk : κ (g.headD 0) = κ n
    · have e : place κ (g :: t) n = (g ++ [n]) :: t := by unfold place; rw [if_pos hk]
      rw [e]
      have hh := headD_append hg.1 [n]
      refine ⟨fun x hx => ?_, List.pairwise_cons.2 ⟨fun x hx => by rw [hh]; exact h2'.1 x hx, h2'.2⟩, fun x hx => ?_, ⟨g ++ [n], List.mem_cons_self, by rw [hh]; exact hk⟩, by simp; omega, fun x hx => ?_⟩
      · rcases List.mem_cons.1 hx with e | hx
        · rw [e]; exact hg.push hk
        · exact (h1t x hx).next (fun e => h2'.1 x hx (hk.trans e.symm))
      · rcases List.mem_cons.1 hx with e | hx
        · exact ⟨g ++ [n], List.mem_cons_self, by rw [hh, e]⟩
        · exact ⟨x, List.mem_cons_of_mem _ hx, rfl⟩
      · rcases List.mem_cons.1 hx with e | hx
        · left; rw [e, hh]; exact hk
        · exact .inr ⟨x, List.mem_cons_of_mem _ hx, rfl⟩
    · have e : place κ (g :: t) n = g :: place κ t n := by rw [place, if_neg hk]
      obtain ⟨a1, a2, a3, a4, a5, a6⟩ := place_spec κ n t h1t h2'.2 (fun x hx hx2 => by
        obtain ⟨y, hy, hy2⟩ := h3 x hx hx2
        rcases List.mem_cons.1 hy with e | hy
        · rw [e] at hy2; exact absurd hy2 hk
        · exact ⟨y, hy, hy2⟩)
      rw [e]
      refine ⟨fun x hx => ?_, List.pairwise_cons.2 ⟨fun x hx => ?_, a2⟩, fun x hx => ?_, ?_, by simp [a5]; omega, fun x hx => ?_⟩
      · rcases List.mem_cons.1 hx with e | hx
        · rw [e]; exact hg.next hk
        · exact a1 x hx
      · rcases a6 x hx with h | ⟨y, hy, hy2⟩
        · rw [h]; exact hk
        · rw [← hy2]; exact h2'.1 y hy
      · rcases List.mem_cons.1 hx with e | hx
        · exact ⟨g, List.mem_cons_self, by rw [e]⟩
        · obtain ⟨y, hy, hy2⟩ := a3 x hx
          exact ⟨y, List.mem_cons_of_mem _ hy, hy2⟩
      · obtain ⟨y, hy, hy2⟩ := a4
        exact ⟨y, List.mem_cons_of_mem _ hy, hy2⟩
      · rcases List.mem_cons.1 hx with e | hx
        · exact .inr ⟨g, List.mem_cons_self, by rw [e]⟩
        · rcases a6 x hx with h | ⟨y, hy, hy2⟩
          · exact .inl h
          · exact .inr ⟨y, List.mem_cons_of_mem _ hy, hy2⟩
structure Grouped {β : Type} [DecidableEq β] (κ : Nat → β) (n : Nat) (gs : List (List Nat)) : Prop where
  ok : ∀ g, g ∈ gs → OkG κ n g
  heads : Heads κ gs
  all : ∀ x, x < n → ∃ g, g ∈ gs ∧ κ (g.headD 0) = κ x
  sum : (gs.map List.length).sum = n
theorem groups_spec {β : Type} [DecidableEq β] (κ : Nat → β) : ∀ n, Grouped κ n (groups κ n)
  | 0 => ⟨fun g h => by simp [groups] at h, List.Pairwise.nil, fun x h => absurd h (by omega), rfl⟩
  | n + 1 => by
    have h := groups_spec κ n
    obtain ⟨a1, a2, a3, a4, a5, a6⟩ := place_spec κ n (groups κ n) h.ok h.heads (fun x hx e => by
      obtain ⟨g, hg, hk⟩ := h.all x hx
      exact ⟨g, hg, hk.trans e⟩)
    refine ⟨a1, a2, fun x hx => ?_, by rw [show groups κ (n + 1) = place κ (groups κ n) n from rfl, a5, h.sum]⟩
    by_cases e : x = n
    · rw [e]; exact a4
    · obtain ⟨g, hg, hk⟩ := h.all x (by omega)
      obtain ⟨g', hg', hk'⟩ := a3 g hg
      exact ⟨g', hg', hk'.trans hk⟩
theorem Grouped.mem {β : Type} [DecidableEq β] {κ : Nat → β} {n : Nat} {gs : List (List Nat)} (h : Grouped κ n gs) {g : List Nat} (hg : g ∈ gs) {x : Nat} : x ∈ g ↔ x < n ∧ κ x = κ (g.headD 0) := by
  have h1 := (h.ok g hg).2
  constructor
  · intro hx
    rw [h1] at hx
    have := List.mem_filter.1 hx
    exact ⟨List.mem_range.1 this.1, by simpa using this.2⟩
  · intro hx
    rw [h1]
    exact List.mem_filter.2 ⟨List.mem_range.2 hx.1, by simpa using hx.2⟩
def grp : List (List Nat) → Nat → Nat → Int
  | [], _, _ => -1
  | g :: t, x, i => if x ∈ g then (i : Int) else grp t x (i + 1)
theorem grp_eq {β : Type} [DecidableEq β] {κ : Nat → β} {n : Nat} {gs : List (List Nat)} (h : Grouped κ n gs) {x y : Nat} (hx : x < n) (hy : y < n) (e : κ x = κ y) : ∀ i, grp gs x i = grp gs y i := by
  have : ∀ (t : List (List Nat)), (∀ g, g ∈ t → g ∈ gs) → ∀ i, grp t x i = grp t y i := by
    intro t
    induction t with
    | nil => exact fun _ _ => rfl
    | cons g t ih =>
      intro ht i
      have hg := ht g List.mem_cons_self
      have hi : x ∈ g ↔ y ∈ g := by rw [h.mem hg, h.mem hg, e]; simp [hx, hy]
      unfold grp
      by_cases hxg : x ∈ g
      · rw [if_pos hxg, if_pos (hi.1 hxg)]
      · rw [if_neg hxg, if_neg (fun hh => hxg (hi.2 hh))]
        exact ih (fun g hg => ht g (List.mem_cons_of_mem _ hg)) (i + 1)
  exact this gs (fun g hg => hg)
end Go.Proofs.Ytelfalicickelaa.GT
set_option linter.unusedSimpArgs false
set_option linter.unusedVariables false
namespace Go.Proofs.Ytelfalicickelaa.P
open Go.Lib Go.RowKit Go.Proofs.YtelfalicickelaaW.PrintWords Go.Proofs.YtelfalicickelaaW.PrintLast Go.Proofs.YtelfalicickelaaW.PrintMore Go.Proofs.Ytelfalicickelaa.Kit
def isFew (ls : List S40) (os : List Int) : Bool := decide (ls.length ≤ 40) && decide (os.length ≤ 40)
theorem few_f (n : Int) (ls : List S40) (os : List Int) : neonwrightlaw07_few.f n ls os = some (isFew ls os) := by
  unfold neonwrightlaw07_few.f isFew
  by_cases h : ls.length ≤ 40
  · rw [if_pos (by omega), decide_eq_true h, Bool.true_and]
    congr 1
    by_cases h2 : os.length ≤ 40
    · rw [decide_eq_true h2, decide_eq_true (by omega)]
    · rw [decide_eq_false h2, decide_eq_false (by omega)]
  · rw [if_neg (by omega), decide_eq_false h, Bool.false_and]
theorem alive_f : neonwrightlaw07_alive.f = some true := rfl
theorem vecOk_nat {N : Nat} {v : Int} : vecOk (N : Int) v ↔ 0 ≤ v ∧ v < ((2 ^ N : Nat) : Int) := by unfold vecOk; rw [Int.toNat_natCast]
theorem lines_f (N : Nat) (hN : N ≤ 6) (ls : List S40) (hl : ls.length ≤ 100) (os : List Int) : neonwrightref07_Lines.f (N : Int) ls os = some ((N + ls.length : Nat) : Int) := by
  unfold neonwrightref07_Lines.f
  rw [w64 (by omega) (by omega)]
  congr 1
theorem okC_nat {n : Int} {ls : List S40} {os : List Int} (h : okC n ls os = true) : ∃ N : Nat, n = (N : Int) := ⟨n.toNat, by have := okC_small h; omega⟩
end Go.Proofs.Ytelfalicickelaa.P
set_option linter.unusedSimpArgs false
set_option linter.unusedVariables false
namespace Go.Proofs.Ytelfalicickelaa.P
open Go.Lib Go.RowKit Go.Proofs.YtelfalicickelaaW.PrintWords Go.Proofs.YtelfalicickelaaW.PrintLast Go.Proofs.YtelfalicickelaaW.PrintMore Go.Proofs.Ytelfalicickelaa.Kit
theorem has_l0 (l : List Int) (x : Int) (hl : l.length ≤ 1000) : ∀ (d i k : Nat), l.length - i = d → i ≤ l.length → d < k → neonwrightlaw07_has.l0 k l x (i : Int) = some (decide (x ∈ l.drop i)) := by
  intro d
  induction d with
  | zero =>
    intro i k hd hi hk
    obtain ⟨k, rfl⟩ : ∃ q, k = q + 1 := ⟨k - 1, by omega⟩
    rw [neonwrightlaw07_has.l0, if_neg (by omega), List.drop_eq_nil_of_le (by omega), decide_eq_false (by simp)]
  | succ d ih =>
    intro i k hd hi hk
    obtain ⟨k, rfl⟩ : ∃ q, k = q + 1 := ⟨k - 1, by omega⟩
    have hil : i < l.length := by omega
    have hw : wrap64 ((i : Int) + 1) = ((i + 1 : Nat) : Int) := by rw [w64 (by omega) (by omega)]; omega
    rw [neonwrightlaw07_has.l0, if_pos (by omega), if_pos (by omega), rd_get _ _ hil, hw, List.drop_eq_getElem_cons hil]
    by_cases h : l[i] = x
    · rw [if_pos h, decide_eq_true (by rw [h]; exact List.mem_cons_self)]
    · rw [if_neg h, ih (i + 1) k (by omega) (by omega) (by omega)]
      congr 1
      by_cases h2 : x ∈ l.drop (i + 1)
      · rw [decide_eq_true h2, decide_eq_true (List.mem_cons_of_mem _ h2)]
      · rw [decide_eq_false h2, decide_eq_false (fun e => (List.mem_cons.1 e).elim (fun e => h e.symm) h2)]
theorem mem_nI {l : List Nat} {x : Nat} : (x : Int) ∈ nI l ↔ x ∈ l := by
  unfold nI
  rw [List.mem_map]
  constructor
  · rintro ⟨y, hy, e⟩
    have : y = x := by omega
    rw [← this]; exact hy
  · exact fun h => ⟨x, h, rfl⟩
theorem has_f (l : List Nat) (x : Nat) (hl : l.length ≤ 1000) (k : Nat) (hk : l.length < k) : neonwrightlaw07_has.f k (nI l) (x : Int) = some (decide (x ∈ l)) := by
  have e := has_l0 (nI l) (x : Int) (by simpa [nI] using hl) (nI l).length 0 k (by omega) (by omega) (by simp [nI]; omega)
  rw [List.drop_zero] at e
  refine e.trans ?_
  congr 1
  by_cases h : x ∈ l
  · rw [decide_eq_true h, decide_eq_true (mem_nI.2 h)]
  · rw [decide_eq_false h, decide_eq_false (fun e => h (mem_nI.1 e))]
theorem whereN_len (N : Nat) (ls : List S40) (os : List Int) (hok : okC (N : Int) ls os = true) (p : Nat → Bool) : (whereN (toC N ls os) p).length ≤ 44 := by
  have hs := okC_small hok
  unfold whereN
  refine Nat.le_trans (List.length_filter_le _ _) ?_
  rw [List.length_range, toC_lines]; omega
theorem mem_whereN {c : GT.C} {p : Nat → Bool} {f : Nat} : f ∈ whereN c p ↔ f < 2 * GT.lines c ∧ p (GT.shows c f) = true := by
  unfold whereN
  rw [List.mem_filter, List.mem_range]
theorem gate_Shown_ok (N : Nat) (ls : List S40) (os : List Int) (hok : okC (N : Int) ls os = true) (v : Nat) (hv : v < 2 ^ N) : gate_Shown.f (N : Int) ls os (v : Int) = some (nI (whereN (toC N ls os) (fun x => x.testBit v)), 0) := by
  unfold gate_Shown.f
  rw [if_pos ⟨hok, vecOk_nat.2 ⟨by omega, Int.ofNat_lt.2 hv⟩⟩, Int.toNat_natCast, Int.toNat_natCast]
end Go.Proofs.Ytelfalicickelaa.P
set_option linter.unusedSimpArgs false
set_option linter.unusedVariables false
namespace Go.Proofs.Ytelfalicickelaa.P
open Go.Lib Go.RowKit Go.Proofs.YtelfalicickelaaW.PrintWords Go.Proofs.YtelfalicickelaaW.PrintLast Go.Proofs.YtelfalicickelaaW.PrintMore Go.Proofs.Ytelfalicickelaa.Kit
def kap (c : GT.C) (f : Nat) : List Nat := GT.outsW c (some f)
theorem alkP_nI (c : GT.C) (f : Nat) (g : List Nat) : alkP c f (nI g) = decide (kap c (g.headD 0) = kap c f) := by
  unfold alkP kap
  cases g with
  | nil => rfl
  | cons a t => rfl
theorem idx_place (c : GT.C) (f : Nat) : ∀ (gs : List (List Nat)) (i : Nat), (idxF (alkP c f) (gs.map nI) i = -1 ∧ GT.place (kap c) gs f = gs ++ [[f]]) ∨
    ∃ j, ∃ h : j < gs.length, idxF (alkP c f) (gs.map nI) i = ((i + j : Nat) : Int) ∧ GT.place (kap c) gs f = gs.set j (gs[j] ++ [f])
  | [], i => .inl ⟨rfl, rfl⟩
  | g :: t, i => by
    rw [List.map_cons, idxF, alkP_nI, GT.place]
    by_cases h : kap c (g.headD 0) = kap c f
    · rw [if_pos (decide_eq_true h), if_pos h]
      exact .inr ⟨0, by simp, rfl, rfl⟩
    · rw [if_neg (by simpa using h), if_neg h]
      rcases idx_place c f t (i + 1) with ⟨e1, e2⟩ | ⟨j, hj, e1, e2⟩
      · exact .inl ⟨e1, by rw [e2]; rfl⟩
      · exact .inr ⟨j + 1, by simpa using hj, by rw [e1]; congr 1; omega, by rw [e2]; rfl⟩
theorem groups_len {β : Type} [DecidableEq β] {κ : Nat → β} {n : Nat} {gs : List (List Nat)} (h : GT.Grouped κ n gs) : gs.length ≤ n := by
  have h1 : ∀ l : List (List Nat), (∀ g, g ∈ l → g ≠ []) → l.length ≤ (l.map List.length).sum := by
    intro l
    induction l with
    | nil => exact fun _ => Nat.le_refl _
    | cons g t ih =>
      intro hl
      have := List.length_pos_iff.2 (hl g List.mem_cons_self)
      have := ih (fun x hx => hl x (List.mem_cons_of_mem _ hx))
      simp; omega
  have h2 := h1 gs (fun g hg => (h.ok g hg).1)
  have h3 := h.sum
  omega
theorem group_len {β : Type} [DecidableEq β] {κ : Nat → β} {n : Nat} {gs : List (List Nat)} (h : GT.Grouped κ n gs) {g : List Nat} (hg : g ∈ gs) : g.length ≤ n := by
  rw [(h.ok g hg).2]
  have := List.length_filter_le (fun x => decide (κ x = κ (g.headD 0))) (List.range n)
  rwa [List.length_range] at this
theorem head_mem {β : Type} [DecidableEq β] {κ : Nat → β} {n : Nat} {gs : List (List Nat)} (h : GT.Grouped κ n gs) {g : List Nat} (hg : g ∈ gs) : g.headD 0 ∈ g := by
  cases g with
  | nil => exact absurd rfl (h.ok [] hg).1
  | cons a t => exact List.mem_cons_self
theorem idx_ok (c : GT.C) {n : Nat} (hn : n ≤ 44) {gs : List (List Nat)} (h : GT.Grouped (kap c) n gs) : idxOk (gs.map nI) (n : Int) = true := by
  have hl := groups_len h
  unfold idxOk
  rw [Bool.and_eq_true, decide_eq_true_iff, List.all_eq_true]
  refine ⟨⟨by omega, by omega, by rw [List.length_map]; omega⟩, fun l hl => ?_⟩
  obtain ⟨g, hg, rfl⟩ := List.mem_map.1 hl
  have h1 := head_mem h hg
  have h2 := (h.mem hg).1 h1
  cases g with
  | nil => exact absurd rfl (h.ok [] hg).1
  | cons a t =>
    have h3 : a < n := h2.1
    show decide (0 ≤ (a : Int) ∧ (a : Int) ≤ 100) = true
    exact decide_eq_true (by omega)
theorem alk_l0 (c : GT.C) (M : Nat) (hM : M ≤ 44) : ∀ (d f k : Nat), M - f = d → f ≤ M → d < k →
    gate_AlikeT.l0 c k ((GT.groups (kap c) f).map nI) (M : Int) (f : Int) = some ((GT.groups (kap c) M).map nI, 0) := by
  intro d
  induction d with
  | zero =>
    intro f k hd hf hk
    obtain ⟨k, rfl⟩ : ∃ q, k = q + 1 := ⟨k - 1, by omega⟩
    rw [gate_AlikeT.l0, if_neg (by omega), show f = M by omega]
  | succ d ih =>
    intro f k hd hf hk
    obtain ⟨k, rfl⟩ : ∃ q, k = q + 1 := ⟨k - 1, by omega⟩
    have hw : wrap64 ((f : Int) + 1) = ((f + 1 : Nat) : Int) := by rw [w64 (by omega) (by omega)]; omega
    have h1 := ih (f + 1) k (by omega) (by omega) (by omega)
    have hG := GT.groups_spec (kap c) f
    have hok := idx_ok c (by omega) hG
    have hlen := groups_len hG
    have hgl : ∀ j (h : j < (GT.groups (kap c) f).length), (GT.groups (kap c) f)[j].length ≤ 44 := fun j h => by
      have := group_len hG (List.getElem_mem h)
      omega
    rw [show GT.groups (kap c) (f + 1) = GT.place (kap c) (GT.groups (kap c) f) f from rfl] at h1
    have hidx := idx_place c f (GT.groups (kap c) f) 0
    clear hG ih
    generalize GT.groups (kap c) f = gs at *
    have hI : idxO c (gs.map nI) (f : Int) = some (idxF (alkP c f) (gs.map nI) 0) := by
      unfold idxO
      rw [if_pos hok, Int.toNat_natCast]
    rw [gate_AlikeT.l0, if_pos (by omega), hI, Option.bind_some]
    rcases hidx with ⟨e1, e2⟩ | ⟨j, hj, e1, e2⟩
    · rw [e2] at h1
      rw [e1, if_pos (by decide), if_pos (by rw [List.length_map]; omega), Option.bind_some]
      have hl1 : ((gs.map nI ++ [[]] : List (List Int)).length : Int) - 1 = ((gs.length : Nat) : Int) := by rw [List.length_append, List.length_map]; simp
      rw [hl1, w64 (by omega) (by omega), if_pos (by omega), if_pos (by rw [List.length_append, List.length_map]; simp; omega)]
      have hrd : rd_L1 (gs.map nI ++ [[]]) ((gs.length : Nat) : Int) = [] := by
        unfold rd_L1
        rw [Int.toNat_natCast, List.getD_eq_getElem?_getD, List.getElem?_append_right (by simp)]
        simp
      rw [hrd, if_pos (by simp), hw, Int.toNat_natCast, List.set_append_right _ _ (by simp)]
      rw [List.map_append] at h1
      simpa [nI] using h1
    · rw [e2, List.map_set] at h1
      have hgj := hgl j hj
      rw [e1, Nat.zero_add, if_neg (by omega), if_pos (by omega), if_pos (by rw [List.length_map]; omega)]
      have hrd : rd_L1 (gs.map nI) ((j : Nat) : Int) = nI gs[j] := by
        unfold rd_L1
        rw [Int.toNat_natCast, List.getD_eq_getElem?_getD, List.getElem?_map, List.getElem?_eq_getElem hj]
        rfl
      rw [hrd, if_pos (by unfold nI; rw [List.length_map]; omega), hw, Int.toNat_natCast]
      have e3 : nI (gs[j] ++ [f]) = nI gs[j] ++ [(f : Int)] := by simp [nI]
      rw [e3] at h1
      exact h1
theorem gate_Alike_ok (N : Nat) (ls : List S40) (os : List Int) (hok : okC (N : Int) ls os = true) : gate_Alike.f (N : Int) ls os = some ((GT.groups (kap (toC N ls os)) (2 * (N + ls.length))).map nI, 0) := by
  have hs := okC_small hok
  unfold gate_Alike.f gate_AlikeT.f
  rw [if_pos hok, Int.toNat_natCast]
  exact alk_l0 (toC N ls os) (2 * (N + ls.length)) (by omega) (2 * (N + ls.length)) 0 1000 (by omega) (by omega) (by omega)
theorem gate_Alike_no (n : Int) (ls : List S40) (os : List Int) (hok : ¬ okC n ls os = true) : gate_Alike.f n ls os = some ([], 2) := by
  unfold gate_Alike.f
  rw [if_neg hok]
theorem kap_reply (N : Nat) (ls : List S40) (os : List Int) (f f' : Nat) : kap (toC N ls os) f = kap (toC N ls os) f' ↔ ∀ v, v < 2 ^ N → GT.reply (toC N ls os) (some f) v = GT.reply (toC N ls os) (some f') v := by
  constructor
  · intro h v hv
    rw [← outsW_reply (toC N ls os) (some f) v hv, ← outsW_reply (toC N ls os) (some f') v hv]
    unfold kap at h
    rw [h]
  · intro h
    unfold kap GT.outsW
    refine List.map_congr_left fun o ho => ?_
    unfold GT.wline
    refine GT.wd_ext _ fun v hv => ?_
    exact (GT.reply_ne _ _ _ v).1 (h v hv) o ho
theorem kap_shows (N : Nat) (ls : List S40) (os : List Int) (f f' : Nat) (h : kap (toC N ls os) f = kap (toC N ls os) f') : GT.shows (toC N ls os) f = GT.shows (toC N ls os) f' := by
  have h1 := (kap_reply N ls os f f').1 h
  unfold GT.shows
  refine GT.wd_ext _ fun v hv => ?_
  rw [h1 v hv]
end Go.Proofs.Ytelfalicickelaa.P
namespace Go.Proofs.Ytelfalicickelaa.GT
def rdsL (g : G) (x : Nat) : Prop := g.a = x ∨ (g.k ≠ 5 ∧ g.b = x)
theorem gv_not (k : Nat) (x y y' : Bool) (h : k = 5) : gv k x y = gv k x y' := by subst h; rfl
theorem twin_vals {c : C} (hc : Ok c) (i : Nat) (hi : i < c.gs.length) (a f1 f2 : Nat) (hf1 : f1 / 2 = a) (hf2 : f2 / 2 = c.n + i) (ha : a < c.n + i)
    (hothers : ∀ j (h : j < c.gs.length), j ≠ i → ¬ rdsL c.gs[j] a)
    (hown : ∀ x y : Bool, (c.gs[i].a = a → x = (f1 % 2 == 1)) → (c.gs[i].b = a → y = (f1 % 2 == 1)) → gv c.gs[i].k x y = (f2 % 2 == 1)) (v : Nat) :
    ∀ j, j < lines c → j ≠ a → (vals c (some f1) v).getD j false = (vals c (some f2) v).getD j false := by
  have hat : (vals c (some f1) v).getD a false = (f1 % 2 == 1) := by
    by_cases h : a < c.n
    · rw [vals_in c _ v h]; exact put_pos _ hf1
    · obtain ⟨q, rfl⟩ : ∃ q, a = c.n + q := ⟨a - c.n, by omega⟩
      rw [vals_gate hc _ v (by omega)]; exact put_pos _ hf1
  intro j
  induction j using Nat.strongRecOn with
  | ind j ih =>
    intro hj hja
    by_cases h : j < c.n
    · rw [vals_in c _ v h, vals_in c _ v h]
      rw [put_neg _ (by omega), put_neg _ (by omega)]
    · obtain ⟨q, rfl⟩ : ∃ q, j = c.n + q := ⟨j - c.n, by omega⟩
      have hq : q < c.gs.length := by unfold lines at hj; omega
      obtain ⟨g1, g2, g3, g4⟩ := hc.g q hq
      rw [vals_gate hc _ v hq, vals_gate hc _ v hq]
      by_cases hqi : q = i
      · subst hqi
        rw [put_neg _ (by omega), put_pos _ hf2]
        exact hown _ _ (fun e => by rw [e]; exact hat) (fun e => by rw [e]; exact hat)
      · have hr := hothers q hq hqi
        rw [put_neg _ (by omega), put_neg _ (by omega)]
        rw [ih c.gs[q].a (by omega) (by unfold lines; omega) (fun e => hr (.inl e))]
        by_cases hk : c.gs[q].k = 5
        · exact gv_not _ _ _ _ hk
        · rw [ih c.gs[q].b (by omega) (by unfold lines; omega) (fun e => hr (.inr ⟨hk, e⟩))]
theorem twin_reply {c : C} (hc : Ok c) (i : Nat) (hi : i < c.gs.length) (a f1 f2 : Nat) (hf1 : f1 / 2 = a) (hf2 : f2 / 2 = c.n + i) (ha : a < c.n + i) (hout : a ∉ c.os)
    (hothers : ∀ j (h : j < c.gs.length), j ≠ i → ¬ rdsL c.gs[j] a)
    (hown : ∀ x y : Bool, (c.gs[i].a = a → x = (f1 % 2 == 1)) → (c.gs[i].b = a → y = (f1 % 2 == 1)) → gv c.gs[i].k x y = (f2 % 2 == 1)) (v : Nat) :
    reply c (some f1) v = reply c (some f2) v := by
  rw [reply_ne]
  intro o ho
  exact twin_vals hc i hi a f1 f2 hf1 hf2 ha hothers hown v o (hc.o o ho) (fun e => hout (e ▸ ho))
end Go.Proofs.Ytelfalicickelaa.GT
set_option linter.unusedSimpArgs false
set_option linter.unusedVariables false
namespace Go.Proofs.Ytelfalicickelaa.P
open Go.Lib Go.RowKit Go.Proofs.YtelfalicickelaaW.PrintWords Go.Proofs.YtelfalicickelaaW.PrintLast Go.Proofs.YtelfalicickelaaW.PrintMore Go.Proofs.Ytelfalicickelaa.Kit
def rn (g : GT.G) (x : Nat) : Nat := (if g.a = x then 1 else 0) + (if g.k ≠ 5 ∧ g.b = x then 1 else 0)
def rsum (gs : List GT.G) (x : Nat) : Nat := (gs.map (rn · x)).sum
theorem rn_le (g : GT.G) (x : Nat) : rn g x ≤ 2 := by unfold rn; split <;> split <;> omega
theorem rsum_le (x : Nat) : ∀ gs : List GT.G, rsum gs x ≤ 2 * gs.length
  | [] => Nat.le_refl _
  | g :: t => by
    have := rsum_le x t
    have := rn_le g x
    unfold rsum at *
    rw [List.map_cons, List.sum_cons, List.length_cons]
    omega
theorem rsum_one (x : Nat) : ∀ (gs : List GT.G) (i : Nat) (hi : i < gs.length), rn gs[i] x ≤ rsum gs x
  | [], i, hi => by simp at hi
  | g :: t, 0, _ => by unfold rsum; rw [List.map_cons, List.sum_cons]; exact Nat.le_add_right _ _
  | g :: t, i + 1, hi => by
    have h := rsum_one x t i (by simpa using hi)
    unfold rsum at *
    rw [List.map_cons, List.sum_cons]
    exact Nat.le_trans h (Nat.le_add_left _ _)
theorem rsum_two (x : Nat) : ∀ (gs : List GT.G) (i j : Nat) (hi : i < gs.length) (hj : j < gs.length), i ≠ j → rn gs[i] x + rn gs[j] x ≤ rsum gs x
  | [], i, j, hi, _, _ => by simp at hi
  | g :: t, 0, 0, _, _, h => absurd rfl h
  | g :: t, 0, j + 1, _, hj, _ => by
    have h := rsum_one x t j (by simpa using hj)
    unfold rsum at *
    rw [List.map_cons, List.sum_cons]
    exact Nat.add_le_add_left h _
  | g :: t, i + 1, 0, hi, _, _ => by
    have h := rsum_one x t i (by simpa using hi)
    unfold rsum at *
    rw [List.map_cons, List.sum_cons, Nat.add_comm]
    exact Nat.add_le_add_left h _
  | g :: t, i + 1, j + 1, hi, hj, hn => by
    have h := rsum_two x t i j (by simpa using hi) (by simpa using hj) (fun e => hn (by rw [e]))
    unfold rsum at *
    rw [List.map_cons, List.sum_cons]
    exact Nat.le_trans h (Nat.le_add_left _ _)
theorem rn_rds {g : GT.G} {x : Nat} : GT.rdsL g x ↔ 1 ≤ rn g x := by
  unfold GT.rdsL rn
  by_cases h1 : g.a = x <;> by_cases h2 : g.k ≠ 5 ∧ g.b = x <;> simp [h1, h2]
def TW (k p q : Nat) : Prop := (k = 5 ∧ p = 0 ∧ q = 1) ∨ (k = 5 ∧ p = 1 ∧ q = 0) ∨ (k = 0 ∧ p = 0 ∧ q = 0) ∨ (k = 3 ∧ p = 0 ∧ q = 1) ∨ (k = 1 ∧ p = 1 ∧ q = 1) ∨ (k = 4 ∧ p = 1 ∧ q = 0)
theorem gv_twin {k p q : Nat} (h : TW k p q) (x y : Bool) (hx : x = (p == 1) ∨ (k ≠ 5 ∧ y = (p == 1))) : GT.gv k x y = (q == 1) := by
  rcases h with ⟨rfl, rfl, rfl⟩ | ⟨rfl, rfl, rfl⟩ | ⟨rfl, rfl, rfl⟩ | ⟨rfl, rfl, rfl⟩ | ⟨rfl, rfl, rfl⟩ | ⟨rfl, rfl, rfl⟩ <;> rcases hx with rfl | ⟨h5, rfl⟩ <;> first | exact absurd rfl h5 | (cases x <;> rfl) | (cases y <;> rfl)
theorem twin_kap (N : Nat) (ls : List S40) (os : List Int) (hok : okC (N : Int) ls os = true) (i : Nat) (hi : i < (toC N ls os).gs.length) (a : Nat) (ha : GT.rdsL (toC N ls os).gs[i] a)
    (hr : 2 * (toC N ls os).os.count a + rsum (toC N ls os).gs a = 1) (p q : Nat) (htw : TW (toC N ls os).gs[i].k p q) : kap (toC N ls os) (2 * a + p) = kap (toC N ls os) (2 * (N + i) + q) := by
  have hc := okC_ok hok
  have hp : p ≤ 1 ∧ q ≤ 1 := by unfold TW at htw; omega
  obtain ⟨g1, g2, g3, g4⟩ := hc.g i hi
  have hn : (toC N ls os).n = N := rfl
  rw [hn] at g2 g3
  have h1 := rn_rds.1 ha
  have h2 := rsum_one a (toC N ls os).gs i hi
  have hal : a < N + i := by
    rcases ha with e | ⟨_, e⟩
    · rw [← e]; exact g2
    · rw [← e]; exact g3
  rw [kap_reply]
  intro v hv
  refine GT.twin_reply hc i hi a (2 * a + p) (2 * (N + i) + q) (by omega) (by rw [hn]; omega) (by rw [hn]; exact hal) (fun e => ?_) (fun j hj hji hd => ?_) (fun x y hx hy => ?_) v
  · have := List.count_pos_iff.2 e
    omega
  · have h3 := rn_rds.1 hd
    have h4 := rsum_two a (toC N ls os).gs i j hi hj (fun e => hji e.symm)
    omega
  · have e1 : (2 * a + p) % 2 = p := by omega
    have e2 : (2 * (N + i) + q) % 2 = q := by omega
    rw [e1] at hx hy
    rw [e2]
    refine gv_twin htw x y ?_
    rcases ha with e | ⟨h5, e⟩
    · exact .inl (hx e)
    · exact .inr ⟨h5, hy e⟩
def cv (M : Nat) (c : Nat → Nat) : List Int := (List.range M).map fun x => ((c x : Nat) : Int)
theorem cv_len (M : Nat) (c : Nat → Nat) : (cv M c).length = M := by simp [cv]
theorem cv_rd {M : Nat} (c : Nat → Nat) {y : Nat} (hy : y < M) : rd (cv M c) (y : Int) = ((c y : Nat) : Int) := by
  rw [rd_get _ _ (by rw [cv_len]; exact hy)]
  simp [cv]
theorem cv_set {M : Nat} (c : Nat → Nat) {y : Nat} (hy : y < M) (e : Nat) : (cv M c).set y ((c y + e : Nat) : Int) = cv M (fun x => c x + if y = x then e else 0) := by
  refine List.ext_getElem (by simp [cv]) fun i h1 h2 => ?_
  have hi : i < M := by simpa [cv] using h2
  rw [List.getElem_set]
  by_cases h : y = i
  · subst h; simp [cv]
  · simp [cv, h]
theorem cv_congr {M : Nat} {c c' : Nat → Nat} (h : ∀ x, c x = c' x) : cv M c = cv M c' := by rw [funext h]
theorem count_snoc (l : List Nat) (y x : Nat) : (l ++ [y]).count x = l.count x + if y = x then 1 else 0 := by
  rw [List.count_append, List.count_cons, List.count_nil]
  by_cases h : y = x <;> simp [h]
theorem rsum_snoc (gs : List GT.G) (g : GT.G) (x : Nat) : rsum (gs ++ [g]) x = rsum gs x + rn g x := by unfold rsum; simp
end Go.Proofs.Ytelfalicickelaa.P
set_option linter.unusedSimpArgs false
set_option linter.unusedVariables false
namespace Go.Proofs.Ytelfalicickelaa.P
open Go.Lib Go.RowKit Go.Proofs.YtelfalicickelaaW.PrintWords Go.Proofs.YtelfalicickelaaW.PrintLast Go.Proofs.YtelfalicickelaaW.PrintMore Go.Proofs.Ytelfalicickelaa.Kit
theorem rdL4_nI (gs : List (List Nat)) (j : Nat) (hj : j < gs.length) : rd_L4 (gs.map nI) (j : Int) = nI gs[j] := by
  unfold rd_L4
  rw [Int.toNat_natCast, List.getD_eq_getElem?_getD, List.getElem?_map, List.getElem?_eq_getElem hj]
  rfl
theorem group_l0 (gs : List (List Nat)) (x : Nat) (h1 : gs.length ≤ 100) (h2 : ∀ g, g ∈ gs → g.length ≤ 100) : ∀ (d i k : Nat), gs.length - i = d → i ≤ gs.length → d + 110 < k →
    neonwrightlaw07_group.l0 k (gs.map nI) (x : Int) (i : Int) = some (GT.grp (gs.drop i) x i) := by
  intro d
  induction d with
  | zero =>
    intro i k hd hi hk
    obtain ⟨k, rfl⟩ : ∃ q, k = q + 1 := ⟨k - 1, by omega⟩
    rw [neonwrightlaw07_group.l0, if_neg (by rw [List.length_map]; omega), List.drop_eq_nil_of_le (by omega)]
    rfl
  | succ d ih =>
    intro i k hd hi hk
    obtain ⟨k, rfl⟩ : ∃ q, k = q + 1 := ⟨k - 1, by omega⟩
    have hil : i < gs.length := by omega
    have hw : ∀ _ : Unit, wrap64 ((i : Int) + 1) = ((i + 1 : Nat) : Int) := fun _ => by rw [w64 (by omega) (by omega)]; omega
    have hg := h2 gs[i] (List.getElem_mem hil)
    rw [neonwrightlaw07_group.l0, if_pos (by rw [List.length_map]; omega), if_pos (by omega), rdL4_nI gs i hil, has_f _ _ (by omega) k (by omega), Option.bind_some, hw (), List.drop_eq_getElem_cons hil, GT.grp]
    by_cases h : x ∈ gs[i]
    · rw [decide_eq_true h, if_pos rfl, if_pos h]
    · rw [decide_eq_false h, if_neg (by decide), if_neg h, ih (i + 1) k (by omega) (by omega) (by omega)]
theorem group_f (gs : List (List Nat)) (x : Nat) (h1 : gs.length ≤ 100) (h2 : ∀ g, g ∈ gs → g.length ≤ 100) (k : Nat) (hk : 300 ≤ k) : neonwrightlaw07_group.f k (gs.map nI) (x : Int) = some (GT.grp gs x 0) :=
  group_l0 gs x h1 h2 gs.length 0 k (by omega) (by omega) (by omega)
theorem twin_f (gs : List (List Nat)) (h1 : gs.length ≤ 100) (h2 : ∀ g, g ∈ gs → g.length ≤ 100) (kd a own : Nat) (ha : a ≤ 100) (ho : own ≤ 100) (h : ∀ p q, TW kd p q → GT.grp gs (2 * a + p) 0 = GT.grp gs (own + q) 0) (k : Nat) (hk : 300 ≤ k) :
    neonwrightlaw07_twin.f k (gs.map nI) (kd : Int) (a : Int) (own : Int) = some true := by
  have e0 : wrap64 (2 * (a : Int)) = ((2 * a + 0 : Nat) : Int) := by rw [w64 (by omega) (by omega)]; omega
  have e1 : wrap64 (((2 * a + 0 : Nat) : Int) + 1) = ((2 * a + 1 : Nat) : Int) := by rw [w64 (by omega) (by omega)]; omega
  have e2 : wrap64 ((own : Int) + 1) = ((own + 1 : Nat) : Int) := by rw [w64 (by omega) (by omega)]; omega
  have e3 : (own : Int) = ((own + 0 : Nat) : Int) := rfl
  have hg := fun x => group_f gs x h1 h2 k hk
  unfold neonwrightlaw07_twin.f
  rw [e0, e1, e2]
  by_cases k5 : kd = 5
  · rw [if_pos (by omega), hg, Option.bind_some, hg, Option.bind_some, if_pos (h 0 1 (.inl ⟨k5, rfl, rfl⟩)), hg, Option.bind_some, e3, hg, Option.bind_some, h 1 0 (.inr (.inl ⟨k5, rfl, rfl⟩))]
    simp
  · rw [if_neg (by omega)]
    by_cases k0 : kd = 0
    · rw [if_pos (by omega), hg, Option.bind_some, e3, hg, Option.bind_some, h 0 0 (.inr (.inr (.inl ⟨k0, rfl, rfl⟩)))]
      simp
    · rw [if_neg (by omega)]
      by_cases k3 : kd = 3
      · rw [if_pos (by omega), hg, Option.bind_some, hg, Option.bind_some, h 0 1 (.inr (.inr (.inr (.inl ⟨k3, rfl, rfl⟩))))]
        simp
      · rw [if_neg (by omega)]
        by_cases k1 : kd = 1
        · rw [if_pos (by omega), hg, Option.bind_some, hg, Option.bind_some, h 1 1 (.inr (.inr (.inr (.inr (.inl ⟨k1, rfl, rfl⟩)))))]
          simp
        · rw [if_neg (by omega)]
          by_cases k4 : kd = 4
          · rw [if_pos (by omega), hg, Option.bind_some, e3, hg, Option.bind_some, h 1 0 (.inr (.inr (.inr (.inr (.inr ⟨k4, rfl, rfl⟩)))))]
            simp
          · rw [if_neg (by omega)]
theorem gate_at (N : Nat) (ls : List S40) (os : List Int) (hok : okC (N : Int) ls os = true) (i : Nat) (hi : i < ls.length) : ∃ k a b : Nat, rd_T40 ls (i : Int) = ⟨(k : Int), (a : Int), (b : Int)⟩ ∧ k ≤ 5 ∧ a < N + i ∧ b < N + i ∧ (k = 5 → b = 0) ∧ ∃ h : i < (toC N ls os).gs.length, (toC N ls os).gs[i] = ⟨k, a, b⟩ := by
  have hs := okC_small hok
  obtain ⟨k, a, b, e, h1, h2, h3, h4⟩ := gate_nat (by omega) (gatesOk_at (okC_gates hok).1 hi)
  refine ⟨k, a, b, ?_, h1, h2, h3, h4, by show i < (ls.map toG).length; rw [List.length_map]; exact hi, ?_⟩
  · unfold rd_T40
    rw [Int.toNat_natCast, List.getD_eq_getElem?_getD, List.getElem?_eq_getElem hi]
    exact e
  · show (ls.map toG)[i]'_ = _
    rw [List.getElem_map, e]
    rfl
def rcnt (c : GT.C) (i x : Nat) : Nat := 2 * c.os.count x + rsum (c.gs.take i) x
theorem rcnt_le (N : Nat) (ls : List S40) (os : List Int) (hok : okC (N : Int) ls os = true) (i x : Nat) : rcnt (toC N ls os) i x ≤ 40 := by
  have hs := okC_small hok
  have h1 : (toC N ls os).os.count x ≤ (toC N ls os).os.length := List.count_le_length
  have h2 := rsum_le x ((toC N ls os).gs.take i)
  have h3 : ((toC N ls os).gs.take i).length ≤ (toC N ls os).gs.length := List.length_take_le' ..
  have h4 : (toC N ls os).os.length = os.length := List.length_map ..
  have h5 : (toC N ls os).gs.length = ls.length := List.length_map ..
  unfold rcnt
  omega
theorem tw_l4 (N : Nat) (ls : List S40) (os : List Int) (hok : okC (N : Int) ls os = true) (gs : List (List Nat)) (hG : GT.Grouped (kap (toC N ls os)) (2 * (N + ls.length)) gs) : ∀ (d i k : Nat), ls.length - i = d → i ≤ ls.length → 2 * d + 310 < k →
    neonwrightlaw07_GateTwins.l4 k (gs.map nI) (cv (N + ls.length) (rcnt (toC N ls os) ls.length)) (i : Int) (N : Int) ls os = some true := by
  have hs := okC_small hok
  have hgl : gs.length ≤ 100 := by have := groups_len hG; omega
  have hgm : ∀ g, g ∈ gs → g.length ≤ 100 := fun g hg => by have := group_len hG hg; omega
  have htake : (toC N ls os).gs.take ls.length = (toC N ls os).gs := List.take_of_length_le (by show (ls.map toG).length ≤ _; rw [List.length_map]; exact Nat.le_refl _)
  have key : ∀ i (h : i < (toC N ls os).gs.length) a, i < ls.length → a < N + ls.length → GT.rdsL (toC N ls os).gs[i] a → rcnt (toC N ls os) ls.length a = 1 → ∀ p q, TW (toC N ls os).gs[i].k p q → GT.grp gs (2 * a + p) 0 = GT.grp gs (2 * (N + i) + q) 0 := by
    intro i h a hil hal hrd hr p q htw
    have hpq : p ≤ 1 ∧ q ≤ 1 := by unfold TW at htw; omega
    unfold rcnt at hr
    rw [htake] at hr
    exact GT.grp_eq hG (by omega) (by omega) (twin_kap N ls os hok i h a hrd hr p q htw) 0
  clear htake
  intro d
  induction d with
  | zero =>
    intro i k hd hi hk
    obtain ⟨k, rfl⟩ : ∃ q, k = q + 1 := ⟨k - 1, by omega⟩
    rw [neonwrightlaw07_GateTwins.l4, if_neg (by omega), alive_f, Option.bind_some]
  | succ d ih =>
    intro i k hd hi hk
    obtain ⟨k, rfl⟩ : ∃ q, k = q + 2 := ⟨k - 2, by omega⟩
    have hil : i < ls.length := by omega
    have hw : ∀ _ : Unit, wrap64 ((i : Int) + 1) = ((i + 1 : Nat) : Int) := fun _ => by rw [w64 (by omega) (by omega)]; omega
    have hown : ∀ _ : Unit, wrap64 (2 * wrap64 ((N : Int) + (i : Int))) = ((2 * (N + i) : Nat) : Int) := fun _ => by rw [w64 (x := (N : Int) + (i : Int)) (by omega) (by omega), w64 (by omega) (by omega)]; omega
    obtain ⟨g, a, b, e, h5, hai, hbi, hb0, hig, eg⟩ := gate_at N ls os hok i hil
    have h1 := ih (i + 1) (k + 1) (by omega) (by omega) (by omega)
    have h1' := ih (i + 1) k (by omega) (by omega) (by omega)
    have hk1 := fun a ha hr => key i hig a hil ha hr
    rw [eg] at hk1
    have hla := rcnt_le N ls os hok ls.length a
    have hlb := rcnt_le N ls os hok ls.length b
    rw [neonwrightlaw07_GateTwins.l4, if_pos (by omega), if_pos (by omega), e]
    dsimp only
    rw [if_pos (by omega), if_pos (by rw [cv_len]; omega), cv_rd _ (show a < N + ls.length by omega), hown ()]
    have hj : neonwrightlaw07_GateTwins.j6 (k + 1) (gs.map nI) (cv (N + ls.length) (rcnt (toC N ls os) ls.length)) (i : Int) ((2 * (N + i) : Nat) : Int) false (N : Int) ls os (g : Int) (a : Int) (b : Int) = some true := by
      rw [neonwrightlaw07_GateTwins.j6, if_neg (by decide), hw ()]
      by_cases g5 : g = 5
      · rw [if_pos (by omega)]; exact h1'
      · rw [if_neg (by omega), if_pos (by omega), if_pos (by rw [cv_len]; omega), cv_rd _ (show b < N + ls.length by omega)]
        by_cases hr : rcnt (toC N ls os) ls.length b = 1
        · rw [if_pos (by omega), twin_f gs hgl hgm g b (2 * (N + i)) (by omega) (by omega) (fun p q htw => hk1 b (by omega) (.inr ⟨g5, rfl⟩) hr p q htw) k (by omega), Option.bind_some, if_pos rfl]
          exact h1'
        · rw [if_neg (by omega)]
          exact h1'
    by_cases hr : rcnt (toC N ls os) ls.length a = 1
    · rw [if_pos (by omega), twin_f gs hgl hgm g a (2 * (N + i)) (by omega) (by omega) (fun p q htw => hk1 a (by omega) (.inl rfl) hr p q htw) (k + 1) (by omega), Option.bind_some]
      exact hj
    · rw [if_neg (by omega)]
      exact hj
theorem tw_l3 (N : Nat) (ls : List S40) (os : List Int) (hok : okC (N : Int) ls os = true) (gs : List (List Nat)) (hG : GT.Grouped (kap (toC N ls os)) (2 * (N + ls.length)) gs) : ∀ (d i k : Nat), ls.length - i = d → i ≤ ls.length → d + 2 * ls.length + 311 < k →
    neonwrightlaw07_GateTwins.l3 k (gs.map nI) (cv (N + ls.length) (rcnt (toC N ls os) i)) (i : Int) (N : Int) ls os = some true := by
  have hs := okC_small hok
  intro d
  induction d with
  | zero =>
    intro i k hd hi hk
    obtain ⟨k, rfl⟩ : ∃ q, k = q + 1 := ⟨k - 1, by omega⟩
    rw [neonwrightlaw07_GateTwins.l3, if_neg (by omega), show i = ls.length by omega]
    exact tw_l4 N ls os hok gs hG ls.length 0 k (by omega) (by omega) (by omega)
  | succ d ih =>
    intro i k hd hi hk
    obtain ⟨k, rfl⟩ : ∃ q, k = q + 1 := ⟨k - 1, by omega⟩
    have hil : i < ls.length := by omega
    have hw : ∀ _ : Unit, wrap64 ((i : Int) + 1) = ((i + 1 : Nat) : Int) := fun _ => by rw [w64 (by omega) (by omega)]; omega
    obtain ⟨g, a, b, e, h5, hai, hbi, hb0, hig, eg⟩ := gate_at N ls os hok i hil
    have h1 := ih (i + 1) k (by omega) (by omega) (by omega)
    have hla := rcnt_le N ls os hok i a
    have hlb := rcnt_le N ls os hok i b
    have hsnoc : ∀ x, rcnt (toC N ls os) (i + 1) x = rcnt (toC N ls os) i x + rn ⟨g, a, b⟩ x := fun x => by
      unfold rcnt
      rw [List.take_succ_eq_append_getElem hig, rsum_snoc, eg]
      omega
    rw [neonwrightlaw07_GateTwins.l3, if_pos (by omega), if_pos (by omega), e]
    dsimp only
    have hwa : ∀ _ : Unit, wrap64 (((rcnt (toC N ls os) i a : Nat) : Int) + 1) = ((rcnt (toC N ls os) i a + 1 : Nat) : Int) := fun _ => by rw [w64 (by omega) (by omega)]; omega
    rw [if_pos (by omega), if_pos (by rw [cv_len]; omega), cv_rd _ (show a < N + ls.length by omega), hwa (), Int.toNat_natCast, cv_set _ (show a < N + ls.length by omega), Option.bind_some, hw ()]
    by_cases g5 : g = 5
    · rw [if_pos (by omega)]
      refine Eq.trans ?_ h1
      congr 1
      exact cv_congr fun x => by rw [hsnoc x]; unfold rn; simp [g5]
    · rw [if_neg (by omega), if_pos (by omega), if_pos (by rw [cv_len]; omega), cv_rd _ (show b < N + ls.length by omega)]
      have hl2 : rcnt (toC N ls os) i b + (if a = b then 1 else 0) ≤ 41 := by split <;> omega
      have hwb : ∀ _ : Unit, wrap64 ((((rcnt (toC N ls os) i b + (if a = b then 1 else 0) : Nat)) : Int) + 1) = ((rcnt (toC N ls os) i b + (if a = b then 1 else 0) + 1 : Nat) : Int) := fun _ => by
        generalize rcnt (toC N ls os) i b + (if a = b then 1 else 0) = z at *
        rw [w64 (by omega) (by omega)]; omega
      rw [hwb (), Int.toNat_natCast]
      have := cv_set (M := N + ls.length) (fun x => rcnt (toC N ls os) i x + if a = x then 1 else 0) (y := b) (by omega) 1
      rw [this]
      refine Eq.trans ?_ h1
      congr 1
      exact cv_congr fun x => by rw [hsnoc x]; unfold rn; simp [g5]; omega
theorem tw_l2 (N : Nat) (ls : List S40) (os : List Int) (hok : okC (N : Int) ls os = true) (gs : List (List Nat)) (hG : GT.Grouped (kap (toC N ls os)) (2 * (N + ls.length)) gs) : ∀ (d i k : Nat), os.length - i = d → i ≤ os.length → d + 3 * ls.length + 312 < k →
    neonwrightlaw07_GateTwins.l2 k (gs.map nI) (cv (N + ls.length) (fun x => 2 * ((os.map Int.toNat).take i).count x)) (i : Int) (N : Int) ls os = some true := by
  have hs := okC_small hok
  intro d
  induction d with
  | zero =>
    intro i k hd hi hk
    obtain ⟨k, rfl⟩ : ∃ q, k = q + 1 := ⟨k - 1, by omega⟩
    rw [neonwrightlaw07_GateTwins.l2, if_neg (by omega)]
    have h := tw_l3 N ls os hok gs hG ls.length 0 k (by omega) (by omega) (by omega)
    refine Eq.trans ?_ h
    congr 1
    refine cv_congr fun x => ?_
    rw [List.take_of_length_le (by rw [List.length_map]; omega)]
    show _ = 2 * (os.map Int.toNat).count x + 0
    rfl
  | succ d ih =>
    intro i k hd hi hk
    obtain ⟨k, rfl⟩ : ∃ q, k = q + 1 := ⟨k - 1, by omega⟩
    have hil : i < os.length := by omega
    have hw : ∀ _ : Unit, wrap64 ((i : Int) + 1) = ((i + 1 : Nat) : Int) := fun _ => by rw [w64 (by omega) (by omega)]; omega
    obtain ⟨h0, h1⟩ := out_nat hok (List.getElem_mem hil)
    obtain ⟨o, ho⟩ := Int.eq_ofNat_of_zero_le h0
    have hol : o < N + ls.length := by omega
    have hih := ih (i + 1) k (by omega) (by omega) (by omega)
    have hil' : i < (os.map Int.toNat).length := by rw [List.length_map]; exact hil
    have hcl : ((os.map Int.toNat).take i).count o ≤ 4 := by
      have h1 := @List.count_le_length Nat _ o ((os.map Int.toNat).take i)
      rw [List.length_take] at h1
      omega
    have hw2 : ∀ _ : Unit, wrap64 (((2 * ((os.map Int.toNat).take i).count o : Nat) : Int) + 2) = ((2 * ((os.map Int.toNat).take i).count o + 2 : Nat) : Int) := fun _ => by
      generalize ((os.map Int.toNat).take i).count o = z at *
      rw [w64 (by omega) (by omega)]; omega
    rw [neonwrightlaw07_GateTwins.l2, if_pos (by omega), if_pos (by omega), rd_get _ _ hil, ho, if_pos (by omega), if_pos (by rw [cv_len]; omega), cv_rd _ hol, hw2 (), Int.toNat_natCast, hw ()]
    have := cv_set (M := N + ls.length) (fun x => 2 * ((os.map Int.toNat).take i).count x) hol 2
    rw [this]
    refine Eq.trans ?_ hih
    congr 1
    refine cv_congr fun x => ?_
    rw [List.take_succ_eq_append_getElem hil', count_snoc, List.getElem_map, ho, Int.toNat_natCast]
    split <;> omega
theorem head_rd (g : List Nat) (h : 0 < g.length) : rd (nI g) 0 = ((g.headD 0 : Nat) : Int) := by
  cases g with
  | nil => simp at h
  | cons a t => rfl
theorem nI_len (g : List Nat) : (nI g).length = g.length := by unfold nI; rw [List.length_map]
theorem nI_rd (g : List Nat) (j : Nat) (h : j < g.length) : rd (nI g) (j : Int) = ((g[j] : Nat) : Int) := by
  rw [rd_get _ _ (by rw [nI_len]; exact h)]
  simp [nI]
theorem tw_l1 (N : Int) (ls : List S40) (os : List Int) (A : List (List Int)) (W : List Int) (G : List Nat) (b : Bool) (i : Nat) (hi : i ≤ 100) (hA : i < A.length) (hrdL : rd_L4 A (i : Int) = nI G) (hG : 0 < G.length) (hG2 : G.length ≤ 100)
    (hh : ∀ x, x ∈ G → ∀ k, 50 ≤ k → neonwrightlaw07_has.f k W (x : Int) = some b) (hh0 : ∀ k, 50 ≤ k → neonwrightlaw07_has.f k W ((G.headD 0 : Nat) : Int) = some b) (m : Int) (r : Option Bool) : ∀ (d j k : Nat), G.length - j = d → j ≤ G.length → d + 50 < k →
    (∀ k', k ≤ k' + d + 1 → neonwrightlaw07_GateTwins.l0 k' A 0 W m ((i + 1 : Nat) : Int) N ls os = r) →
    neonwrightlaw07_GateTwins.l1 k A 0 W m (i : Int) (j : Int) N ls os = r := by
  have hhead := fun (_ : Unit) => head_rd G hG
  have hnl := nI_len G
  have hw : ∀ _ : Unit, wrap64 ((i : Int) + 1) = ((i + 1 : Nat) : Int) := fun _ => by rw [w64 (by omega) (by omega)]; omega
  intro d
  induction d with
  | zero =>
    intro j k hd hj hk h
    obtain ⟨k, rfl⟩ : ∃ q, k = q + 1 := ⟨k - 1, by omega⟩
    rw [neonwrightlaw07_GateTwins.l1, if_pos (by omega), if_pos (by omega), hrdL, if_neg (by omega), hw ()]
    exact h k (by omega)
  | succ d ih =>
    intro j k hd hj hk h
    obtain ⟨k, rfl⟩ : ∃ q, k = q + 1 := ⟨k - 1, by omega⟩
    have hjl : j < G.length := by omega
    have hw2 : ∀ _ : Unit, wrap64 ((j : Int) + 1) = ((j + 1 : Nat) : Int) := fun _ => by rw [w64 (by omega) (by omega)]; omega
    rw [neonwrightlaw07_GateTwins.l1, if_pos (by omega), if_pos (by omega), hrdL, if_pos (by omega), if_pos (by omega), nI_rd G j hjl, hh _ (List.getElem_mem hjl) k (by omega), Option.bind_some, if_pos (by omega), hhead (), hh0 k (by omega), Option.bind_some, if_neg (by simp), hw2 ()]
    exact ih (j + 1) k (by omega) (by omega) (by omega) (fun k' hk' => h k' (by omega))
theorem sum_take (l : List (List Nat)) (i : Nat) (h : i < l.length) : ((l.take (i + 1)).map List.length).sum = ((l.take i).map List.length).sum + l[i].length := by
  rw [List.take_succ_eq_append_getElem h]
  simp only [List.map_append, List.sum_append, List.map_cons, List.map_nil, List.sum_cons, List.sum_nil, Nat.add_zero]
theorem sum_take_le : ∀ (l : List (List Nat)) (i : Nat), ((l.take i).map List.length).sum ≤ (l.map List.length).sum
  | [], i => by simp
  | g :: t, 0 => by simp
  | g :: t, i + 1 => by
    have := sum_take_le t i
    rw [List.take_succ_cons, List.map_cons, List.sum_cons, List.map_cons, List.sum_cons]
    omega
theorem tw_l0 (N : Nat) (ls : List S40) (os : List Int) (hok : okC (N : Int) ls os = true) (gs : List (List Nat)) (V : Nat) (hG : GT.Grouped (kap (toC N ls os)) (2 * (N + ls.length)) gs) : ∀ (d i k : Nat), gs.length - i = d → i ≤ gs.length → 101 * d + 500 < k →
    neonwrightlaw07_GateTwins.l0 k (gs.map nI) 0 (nI (whereN (toC N ls os) (fun x => x.testBit V))) ((((gs.take i).map List.length).sum : Nat) : Int) (i : Int) (N : Int) ls os = some true := by
  have hs := okC_small hok
  have hsum := hG.sum
  have hgl := groups_len hG
  intro d
  induction d with
  | zero =>
    intro i k hd hi hk
    obtain ⟨k, rfl⟩ : ∃ q, k = q + 2 := ⟨k - 2, by omega⟩
    rw [neonwrightlaw07_GateTwins.l0, if_neg (by rw [List.length_map]; omega), if_pos rfl, lines_f N (by omega) ls (by omega), Option.bind_some, List.take_of_length_le (by omega), hsum, w64 (x := 2 * ((N + ls.length : Nat) : Int)) (by omega) (by omega)]
    have e : (((2 * (N + ls.length) : Nat) : Int) != 2 * ((N + ls.length : Nat) : Int)) = false := bne_eq_false_iff_eq.2 (by omega)
    rw [e, neonwrightlaw07_GateTwins.j2, if_neg (by decide), lines_f N (by omega) ls (by omega), Option.bind_some, if_pos (by omega), if_pos (by omega), Int.toNat_natCast]
    have h := tw_l2 N ls os hok gs hG os.length 0 k (by omega) (by omega) (by omega)
    refine Eq.trans ?_ h
    congr 1
    unfold cv
    rw [List.take_zero]
    refine List.ext_getElem (by simp) fun i h1 h2 => by simp
  | succ d ih =>
    intro i k hd hi hk
    obtain ⟨k, rfl⟩ : ∃ q, k = q + 1 := ⟨k - 1, by omega⟩
    have hil : i < gs.length := by omega
    have hgi := group_len hG (List.getElem_mem hil)
    have hst := sum_take gs i hil
    have hle := sum_take_le gs (i + 1)
    have hwm : ∀ _ : Unit, wrap64 ((((gs.take i).map List.length).sum : Nat) : Int) = ((((gs.take i).map List.length).sum : Nat) : Int) := fun _ => by
      generalize ((gs.take i).map List.length).sum = z at *
      rw [w64 (by omega) (by omega)]
    have hnl : (nI gs[i]).length = gs[i].length := by unfold nI; rw [List.length_map]
    have hwm2 : ∀ _ : Unit, wrap64 (((((gs.take i).map List.length).sum : Nat) : Int) + ((nI gs[i]).length : Int)) = ((((gs.take (i + 1)).map List.length).sum : Nat) : Int) := fun _ => by
      rw [hnl]
      generalize ((gs.take (i + 1)).map List.length).sum = z' at *
      generalize ((gs.take i).map List.length).sum = z at *
      rw [w64 (by omega) (by omega)]; omega
    rw [neonwrightlaw07_GateTwins.l0, if_pos (by rw [List.length_map]; omega), if_pos (by omega), rdL4_nI gs i hil, hwm2 ()]
    have h0 := head_mem hG (List.getElem_mem hil)
    have hmem : ∀ x, x ∈ gs[i] → ∀ k, 50 ≤ k → neonwrightlaw07_has.f k (nI (whereN (toC N ls os) (fun x => x.testBit V))) (x : Int) = some ((GT.shows (toC N ls os) (gs[i].headD 0)).testBit V) := fun x hx k hk => by
      have hwl := whereN_len N ls os hok (fun x => x.testBit V)
      rw [has_f _ _ (by omega) k (by omega)]
      obtain ⟨e1, e2⟩ := (hG.mem (List.getElem_mem hil)).1 hx
      rw [← kap_shows N ls os x _ e2]
      congr 1
      cases hb : (GT.shows (toC N ls os) x).testBit V with
      | true => exact decide_eq_true (mem_whereN.2 ⟨by rw [toC_lines]; exact e1, hb⟩)
      | false => exact decide_eq_false (fun e => by have := (mem_whereN.1 e).2; simp only [hb] at this; cases this)
    have hpos := List.length_pos_iff.2 (hG.ok _ (List.getElem_mem hil)).1
    exact tw_l1 (N : Int) ls os (gs.map nI) _ gs[i] _ i (by omega) (by rw [List.length_map]; omega) (rdL4_nI gs i hil) hpos (by omega) hmem (hmem _ h0) _ _ gs[i].length 0 k (by omega) (by omega) (by omega) (fun k' hk' => ih (i + 1) k' (by omega) (by omega) (by omega))
end Go.Proofs.Ytelfalicickelaa.P
namespace Go.Proofs.Ytelfalicickelaa.Pure
open Go.RowKit Go.Proofs.Ytelfalicickelaa.P Go.Proofs.YtelfalicickelaaW.PrintWords Go.Proofs.YtelfalicickelaaW.PrintLast Go.Proofs.YtelfalicickelaaW.PrintMore Go.Proofs.Ytelfalicickelaa.Kit
theorem GateTwins (n : Int) (ls : List S40) (os : List Int) (a : Int) (w0 : (Lit.int .i64 n).wf = true) (w1 : (Lit.int .u8 a).wf = true) : ∃ k, neonwrightlaw07_GateTwins.f k n ls os a = some true := by
  refine ⟨10000, ?_⟩
  have ha : 0 ≤ a ∧ a ≤ 255 := by
    have h := (Bool.and_eq_true _ _).mp w1
    exact ⟨of_decide_eq_true h.1, of_decide_eq_true h.2⟩
  unfold neonwrightlaw07_GateTwins.f
  rw [few_f, Option.bind_some]
  by_cases h : isFew ls os = true
  · rw [if_pos h]
    by_cases hok : okC n ls os = true
    · obtain ⟨N, rfl⟩ := okC_nat hok
      have hs := okC_small hok
      have hp := pow6 (N := N) (by omega)
      have hpos : 0 < 2 ^ N := Nat.pos_of_ne_zero (by simp)
      obtain ⟨A, rfl⟩ := Int.eq_ofNat_of_zero_le ha.1
      have hV : A % 2 ^ N < 2 ^ N := Nat.mod_lt _ hpos
      have hG := GT.groups_spec (kap (toC N ls os)) (2 * (N + ls.length))
      have hgl := groups_len hG
      rw [gate_Alike_ok N ls os hok, Option.bind_some, if_pos rfl, if_pos (by omega), shl1n (by omega), if_neg (by generalize 2 ^ N = q at *; omega), w64 (by omega) (by omega), tmodn, gate_Shown_ok N ls os hok _ hV, Option.bind_some]
      generalize GT.groups (kap (toC N ls os)) (2 * (N + ls.length)) = gs at *
      exact tw_l0 N ls os hok gs (A % 2 ^ N) hG gs.length 0 10000 (by omega) (by omega) (by omega)
    · rw [gate_Alike_no n ls os hok, Option.bind_some, if_neg (by decide), if_pos rfl, if_pos (show ((([] : List (List Int)).length : Nat) : Int) = 0 from rfl), alive_f, Option.bind_some]
  · rw [if_neg h, alive_f, Option.bind_some]
end Go.Proofs.Ytelfalicickelaa.Pure
