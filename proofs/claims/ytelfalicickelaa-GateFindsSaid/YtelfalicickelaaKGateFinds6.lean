/- Texts of this claim, merged by a program (shake.py): what the last theorems reach of RCirc, RBase, RHas, GateN6, RAlk, RGrp, PureGateFinds. -/
import Derived.Test.YtelfalicickelaaKB2
import Derived.Test.YtelfalicickelaaKB3
import Derived.Test.YtelfalicickelaaKGateFinds2
import Derived.Test.YtelfalicickelaaKB1
import Derived.Test.YtelfalicickelaaKGateFinds1
import Derived.Test.YtelfalicickelaaKB8
import Derived.Test.YtelfalicickelaaKGateFinds3
import Derived.Test.YtelfalicickelaaKB7
import Derived.Test.YtelfalicickelaaKGateFinds4
import Derived.Test.YtelfalicickelaaKGateFinds5
set_option linter.unusedSimpArgs false
set_option linter.unusedVariables false
namespace Go.Proofs.Ytelfalicickelaa.P
open Go.Lib Go.RowKit Go.Proofs.YtelfalicickelaaW.PrintWords Go.Proofs.YtelfalicickelaaW.PrintLast Go.Proofs.YtelfalicickelaaW.PrintMore Go.Proofs.Ytelfalicickelaa.Kit
theorem rcirc_l1 (N : Nat) (ls : List S40) (os : List Int) (hN : N ≤ 6) (hl : ls.length ≤ 16) (ho : os.length ≤ 4) : ∀ (d i k : Nat), os.length - i = d → i ≤ os.length → d < k →
    neonwrightref07_Circuit.l1 k (i : Int) (N : Int) ls os = some (!(os.drop i).any (badL (N + ls.length))) := by
  intro d
  induction d with
  | zero =>
    intro i k hd hi hk
    obtain ⟨k, rfl⟩ : ∃ q, k = q + 1 := ⟨k - 1, by omega⟩
    simp only [neonwrightref07_Circuit.l1]
    rw [if_neg (by omega), List.drop_eq_nil_of_le (by omega)]
    rfl
  | succ d ih =>
    intro i k hd hi hk
    obtain ⟨k, rfl⟩ : ∃ q, k = q + 1 := ⟨k - 1, by omega⟩
    have hil : i < os.length := by omega
    have hw : ∀ _ : Unit, wrap64 ((i : Int) + 1) = ((i + 1 : Nat) : Int) := fun _ => by rw [w64 (by omega) (by omega)]; omega
    have hw2 : ∀ _ : Unit, wrap64 ((N : Int) + (ls.length : Int)) = ((N + ls.length : Nat) : Int) := fun _ => by rw [w64 (by omega) (by omega)]; omega
    simp only [neonwrightref07_Circuit.l1, neonwrightref07_Lines.f, Option.bind_some]
    rw [if_pos (by omega), if_pos (by omega), rd_get _ _ hil, hw2 (), hw (), List.drop_eq_getElem_cons hil, List.any_cons]
    by_cases h1 : os[i] < 0
    · rw [if_pos h1]
      simp [badL, h1]
    · rw [if_neg h1]
      by_cases h2 : os[i] ≥ ((N + ls.length : Nat) : Int)
      · rw [if_pos h2]
        have : badL (N + ls.length) os[i] = true := by unfold badL; rw [decide_eq_true (p := ((N + ls.length : Nat) : Int) ≤ os[i]) h2, Bool.or_true]
        rw [this]; rfl
      · rw [if_neg h2, ih (i + 1) k (by omega) (by omega) (by omega)]
        have : badL (N + ls.length) os[i] = false := by unfold badL; rw [decide_eq_false h1, decide_eq_false (p := ((N + ls.length : Nat) : Int) ≤ os[i]) (by omega)]; rfl
        rw [this, Bool.false_or]
theorem rcirc_l0 (N : Nat) (ls : List S40) (os : List Int) (hN1 : 1 ≤ N) (hN : N ≤ 6) (hl : ls.length ≤ 16) (ho : os.length ≤ 4) : ∀ (d i k : Nat), ls.length - i = d → i ≤ ls.length → d + 6 < k →
    neonwrightref07_Circuit.l0 k (i : Int) (N : Int) ls os = some ((List.range' i d).all (fun j => gateOk N j (ls.getD j z40)) && !os.any (badL (N + ls.length))) := by
  intro d
  induction d with
  | zero =>
    intro i k hd hi hk
    obtain ⟨k, rfl⟩ : ∃ q, k = q + 1 := ⟨k - 1, by omega⟩
    simp only [neonwrightref07_Circuit.l0]
    rw [if_neg (by omega)]
    have := rcirc_l1 N ls os hN hl ho os.length 0 k (by omega) (by omega) (by omega)
    rw [List.drop_zero] at this
    refine this.trans ?_
    rfl
  | succ d ih =>
    intro i k hd hi hk
    obtain ⟨k, rfl⟩ : ∃ q, k = q + 1 := ⟨k - 1, by omega⟩
    have hil : i < ls.length := by omega
    have hw : ∀ _ : Unit, wrap64 ((i : Int) + 1) = ((i + 1 : Nat) : Int) := fun _ => by rw [w64 (by omega) (by omega)]; omega
    have hw2 : ∀ _ : Unit, wrap64 ((N : Int) + (i : Int)) = ((N + i : Nat) : Int) := fun _ => by rw [w64 (by omega) (by omega)]; omega
    have hrd : rd_T40 ls (i : Int) = ls.getD i z40 := by unfold rd_T40; rw [Int.toNat_natCast]
    simp only [neonwrightref07_Circuit.l0]
    rw [if_pos (by omega), if_pos (by omega), hrd, hw2 (), hw (), List.range'_succ, List.all_cons]
    have h1 := ih (i + 1) k (by omega) (by omega) (by omega)
    generalize ls.getD i z40 = s at *
    have hno : gateOk N i s = false → some false = some ((gateOk N i s && (List.range' (i + 1) d).all fun j => gateOk N j (ls.getD j z40)) && !os.any (badL (N + ls.length))) := fun h => by rw [h]; rfl
    have hyes : gateOk N i s = true → neonwrightref07_Circuit.l0 k ((i + 1 : Nat) : Int) (N : Int) ls os = some ((gateOk N i s && (List.range' (i + 1) d).all fun j => gateOk N j (ls.getD j z40)) && !os.any (badL (N + ls.length))) := fun h => by rw [h, Bool.true_and]; exact h1
    have hg : gateOk N i s = decide ((0 ≤ s.f0 ∧ s.f0 ≤ 5) ∧ (0 ≤ s.f1 ∧ s.f1 < ((N + i : Nat) : Int)) ∧ (0 ≤ s.f2 ∧ s.f2 < ((N + i : Nat) : Int)) ∧ (s.f0 = 5 → s.f2 = 0)) := by
      unfold gateOk readsL
      by_cases h5 : s.f0 = 5
      · rw [if_pos h5]
        rw [Bool.eq_iff_iff]
        simp [badL, h5] <;> omega
      · rw [if_neg h5]
        rw [Bool.eq_iff_iff]
        simp [badL, h5] <;> omega
    clear ih h1
    repeat' (split <;> first | (refine hno ?_; rw [hg]; exact decide_eq_false (by omega)) | skip)
    all_goals first
      | (refine hyes ?_; rw [hg]; exact decide_eq_true (by omega))
      | (refine hno ?_; rw [hg]; exact decide_eq_false (by omega))
theorem rCircuit_f (n : Int) (ls : List S40) (os : List Int) (k : Nat) (hk : 40 ≤ k) : neonwrightref07_Circuit.f k n ls os = some (okC n ls os) := by
  obtain ⟨k, rfl⟩ : ∃ q, k = q + 1 := ⟨k - 1, by omega⟩
  have hb : ∀ b, b = true → neonwrightref07_Circuit.j0 (k + 1) b n ls os = some false := fun b h => by simp only [neonwrightref07_Circuit.j0]; rw [if_pos h]
  by_cases hs : 1 ≤ n ∧ n ≤ 6 ∧ ls.length ≤ 16 ∧ 1 ≤ os.length ∧ os.length ≤ 4
  · obtain ⟨N, rfl⟩ := Int.eq_ofNat_of_zero_le (show 0 ≤ n by omega)
    unfold neonwrightref07_Circuit.f okC
    rw [if_neg (by omega), if_neg (by omega), if_neg (by omega), if_neg (by omega), decide_eq_true hs, Bool.true_and, Int.toNat_natCast]
    simp only [neonwrightref07_Circuit.j0]
    rw [if_neg (by simp; omega)]
    refine (rcirc_l0 N ls os (by omega) (by omega) (by omega) (by omega) ls.length 0 k (by omega) (by omega) (by omega)).trans ?_
    unfold gatesOk
    rw [List.range_eq_range']
  · have : okC n ls os = false := by unfold okC; rw [decide_eq_false hs]; rfl
    rw [this]
    unfold neonwrightref07_Circuit.f
    by_cases h1 : n < 1
    · rw [if_pos h1, hb true rfl]
    · rw [if_neg h1]
      by_cases h2 : n > 6
      · rw [if_pos h2, hb true rfl]
      · rw [if_neg h2]
        by_cases h3 : (ls.length : Int) > 16
        · rw [if_pos h3, hb true rfl]
        · rw [if_neg h3]
          by_cases h4 : (os.length : Int) < 1
          · rw [if_pos h4, hb true rfl]
          · rw [if_neg h4, hb _ (decide_eq_true (by omega))]
end Go.Proofs.Ytelfalicickelaa.P
set_option linter.unusedSimpArgs false
set_option linter.unusedVariables false
namespace Go.Proofs.Ytelfalicickelaa.P
open Go.Lib Go.RowKit Go.Proofs.YtelfalicickelaaW.PrintWords Go.Proofs.YtelfalicickelaaW.PrintLast Go.Proofs.YtelfalicickelaaW.PrintMore Go.Proofs.Ytelfalicickelaa.Kit
def isFew (ls : List S40) (os : List Int) : Bool := decide (ls.length ≤ 40) && decide (os.length ≤ 40)
theorem few_f (n : Int) (ls : List S40) (os : List Int) : neonwrightlaw07_few.f n ls os = some (isFew ls os) := by
  unfold neonwrightlaw07_few.f isFew
  by_cases h : ls.length ≤ 40
  · rw [if_pos (by omega), decide_eq_true h, Bool.true_and]
    congr 1
    by_cases h2 : os.length ≤ 40
    · rw [decide_eq_true h2, decide_eq_true (by omega)]
    · rw [decide_eq_false h2, decide_eq_false (by omega)]
  · rw [if_neg (by omega), decide_eq_false h, Bool.false_and]
theorem alive_f : neonwrightlaw07_alive.f = some true := rfl
theorem same_l0 (a b : List Int) (hl : a.length = b.length) (hs : a.length ≤ 1000) : ∀ (d i k : Nat), a.length - i = d → i ≤ a.length → d < k →
    neonwrightlaw07_same.l0 k a b (i : Int) = some (decide (a.drop i = b.drop i)) := by
  intro d
  induction d with
  | zero =>
    intro i k hd hi hk
    obtain ⟨k, rfl⟩ : ∃ q, k = q + 1 := ⟨k - 1, by omega⟩
    rw [neonwrightlaw07_same.l0, if_neg (by omega), List.drop_eq_nil_of_le (by omega), List.drop_eq_nil_of_le (by omega)]
    rfl
  | succ d ih =>
    intro i k hd hi hk
    obtain ⟨k, rfl⟩ : ∃ q, k = q + 1 := ⟨k - 1, by omega⟩
    have hw : wrap64 ((i : Int) + 1) = ((i + 1 : Nat) : Int) := by rw [w64 (by omega) (by omega)]; omega
    have ha : i < a.length := by omega
    have hb : i < b.length := by omega
    rw [neonwrightlaw07_same.l0, if_pos (by omega), if_pos (by omega), if_pos (by omega), rd_get _ _ ha, rd_get _ _ hb, List.drop_eq_getElem_cons ha, List.drop_eq_getElem_cons hb, hw]
    by_cases h : a[i] = b[i]
    · rw [if_pos h, ih (i + 1) k (by omega) (by omega) (by omega), h]
      congr 1
      by_cases h2 : a.drop (i + 1) = b.drop (i + 1)
      · rw [h2]; simp
      · rw [decide_eq_false h2, decide_eq_false (fun e => h2 (List.cons.inj e).2)]
    · rw [if_neg h, decide_eq_false (fun e => h (List.cons.inj e).1)]
theorem same_f (a b : List Int) (hs : a.length ≤ 1000) (k : Nat) (hk : a.length < k) : neonwrightlaw07_same.f k a b = some (decide (a = b)) := by
  unfold neonwrightlaw07_same.f
  by_cases h : a.length = b.length
  · rw [if_pos (by omega)]
    exact same_l0 a b h hs a.length 0 k (by omega) (by omega) (by omega)
  · rw [if_neg (by omega), decide_eq_false (fun e => h (congrArg List.length e))]
theorem vecOk_nat {N : Nat} {v : Int} : vecOk (N : Int) v ↔ 0 ≤ v ∧ v < ((2 ^ N : Nat) : Int) := by unfold vecOk; rw [Int.toNat_natCast]
theorem lines_f (N : Nat) (hN : N ≤ 6) (ls : List S40) (hl : ls.length ≤ 100) (os : List Int) : neonwrightref07_Lines.f (N : Int) ls os = some ((N + ls.length : Nat) : Int) := by
  unfold neonwrightref07_Lines.f
  rw [w64 (by omega) (by omega)]
  congr 1
theorem stuck_f (N : Nat) (hN : N ≤ 6) (ls : List S40) (hl : ls.length ≤ 16) (os : List Int) (L a : Int) : neonwrightref07_IsStuck.f (N : Int) ls os L a = some (decide (stuckOk (N + ls.length) L a)) := by
  have hi : stuckOk (N + ls.length) L a ↔ 0 ≤ L ∧ L < ((N + ls.length : Nat) : Int) ∧ 0 ≤ a ∧ a ≤ 1 := Iff.rfl
  unfold neonwrightref07_IsStuck.f
  rw [lines_f N hN ls (by omega), Option.bind_some]
  by_cases h : 0 ≤ L
  · rw [if_pos h]
    by_cases h2 : L < ((N + ls.length : Nat) : Int)
    · rw [if_pos h2]
      by_cases h3 : a = 0
      · rw [if_pos h3, decide_eq_true (hi.2 (by omega))]
      · rw [if_neg h3]
        congr 1
        by_cases h4 : a = 1
        · rw [decide_eq_true (hi.2 (by omega)), h4]; rfl
        · rw [decide_eq_false (fun e => by have := hi.1 e; omega)]
          exact beq_eq_false_iff_ne.2 h4
    · rw [if_neg h2, decide_eq_false (fun e => by have := hi.1 e; omega)]
  · rw [if_neg h, decide_eq_false (fun e => by have := hi.1 e; omega)]
theorem okC_nat {n : Int} {ls : List S40} {os : List Int} (h : okC n ls os = true) : ∃ N : Nat, n = (N : Int) := ⟨n.toNat, by have := okC_small h; omega⟩
end Go.Proofs.Ytelfalicickelaa.P
set_option linter.unusedSimpArgs false
set_option linter.unusedVariables false
namespace Go.Proofs.Ytelfalicickelaa.P
open Go.Lib Go.RowKit Go.Proofs.YtelfalicickelaaW.PrintWords Go.Proofs.YtelfalicickelaaW.PrintLast Go.Proofs.YtelfalicickelaaW.PrintMore Go.Proofs.Ytelfalicickelaa.Kit
theorem has_l0 (l : List Int) (x : Int) (hl : l.length ≤ 1000) : ∀ (d i k : Nat), l.length - i = d → i ≤ l.length → d < k → neonwrightlaw07_has.l0 k l x (i : Int) = some (decide (x ∈ l.drop i)) := by
  intro d
  induction d with
  | zero =>
    intro i k hd hi hk
    obtain ⟨k, rfl⟩ : ∃ q, k = q + 1 := ⟨k - 1, by omega⟩
    rw [neonwrightlaw07_has.l0, if_neg (by omega), List.drop_eq_nil_of_le (by omega), decide_eq_false (by simp)]
  | succ d ih =>
    intro i k hd hi hk
    obtain ⟨k, rfl⟩ : ∃ q, k = q + 1 := ⟨k - 1, by omega⟩
    have hil : i < l.length := by omega
    have hw : wrap64 ((i : Int) + 1) = ((i + 1 : Nat) : Int) := by rw [w64 (by omega) (by omega)]; omega
    rw [neonwrightlaw07_has.l0, if_pos (by omega), if_pos (by omega), rd_get _ _ hil, hw, List.drop_eq_getElem_cons hil]
    by_cases h : l[i] = x
    · rw [if_pos h, decide_eq_true (by rw [h]; exact List.mem_cons_self)]
    · rw [if_neg h, ih (i + 1) k (by omega) (by omega) (by omega)]
      congr 1
      by_cases h2 : x ∈ l.drop (i + 1)
      · rw [decide_eq_true h2, decide_eq_true (List.mem_cons_of_mem _ h2)]
      · rw [decide_eq_false h2, decide_eq_false (fun e => (List.mem_cons.1 e).elim (fun e => h e.symm) h2)]
theorem mem_nI {l : List Nat} {x : Nat} : (x : Int) ∈ nI l ↔ x ∈ l := by
  unfold nI
  rw [List.mem_map]
  constructor
  · rintro ⟨y, hy, e⟩
    have : y = x := by omega
    rw [← this]; exact hy
  · exact fun h => ⟨x, h, rfl⟩
theorem has_f (l : List Nat) (x : Nat) (hl : l.length ≤ 1000) (k : Nat) (hk : l.length < k) : neonwrightlaw07_has.f k (nI l) (x : Int) = some (decide (x ∈ l)) := by
  have e := has_l0 (nI l) (x : Int) (by simpa [nI] using hl) (nI l).length 0 k (by omega) (by omega) (by simp [nI]; omega)
  rw [List.drop_zero] at e
  refine e.trans ?_
  congr 1
  by_cases h : x ∈ l
  · rw [decide_eq_true h, decide_eq_true (mem_nI.2 h)]
  · rw [decide_eq_false h, decide_eq_false (fun e => h (mem_nI.1 e))]
theorem gate_Failed_ok (N : Nat) (ls : List S40) (os : List Int) (hok : okC (N : Int) ls os = true) (L a : Int) (hst : stuckOk (N + ls.length) L a) (v : Nat) (hv : v < 2 ^ N) : gate_Failed.f (N : Int) ls os L a (v : Int) = some (((GT.reply (toC N ls os) (some (2 * L + a).toNat) v : Nat) : Int), 0) := by
  unfold gate_Failed.f
  rw [if_pos ⟨hok, hst, vecOk_nat.2 ⟨by omega, Int.ofNat_lt.2 hv⟩⟩, Int.toNat_natCast, Int.toNat_natCast]
end Go.Proofs.Ytelfalicickelaa.P
namespace Go.Proofs.Ytelfalicickelaa.GT
def place {β : Type} [DecidableEq β] (κ : Nat → β) : List (List Nat) → Nat → List (List Nat)
  | [], f => [[f]]
  | g :: t, f => if κ (g.headD 0) = κ f then (g ++ [f]) :: t else g :: place κ t f
def groups {β : Type} [DecidableEq β] (κ : Nat → β) : Nat → List (List Nat)
  | 0 => []
  | n + 1 => place κ (groups κ n) n
def OkG {β : Type} [DecidableEq β] (κ : Nat → β) (n : Nat) (g : List Nat) : Prop := g ≠ [] ∧ g = (List.range n).filter fun x => decide (κ x = κ (g.headD 0))
def Heads {β : Type} (κ : Nat → β) (gs : List (List Nat)) : Prop := gs.Pairwise fun g h => κ (g.headD 0) ≠ κ (h.headD 0)
theorem headD_append {g : List Nat} (h : g ≠ []) (l : List Nat) : (g ++ l).headD 0 = g.headD 0 := by
  cases g with
  | nil => exact absurd rfl h
  | cons a t => rfl
theorem OkG.next {β : Type} [DecidableEq β] {κ : Nat → β} {n : Nat} {g : List Nat} (h : OkG κ n g) (hn : κ (g.headD 0) ≠ κ n) : OkG κ (n + 1) g := by
  refine ⟨h.1, ?_⟩
  rw [List.range_succ, List.filter_append, List.filter_cons_of_neg (fun e => hn (of_decide_eq_true e).symm), List.filter_nil, List.append_nil]
  exact h.2
theorem OkG.push {β : Type} [DecidableEq β] {κ : Nat → β} {n : Nat} {g : List Nat} (h : OkG κ n g) (hn : κ (g.headD 0) = κ n) : OkG κ (n + 1) (g ++ [n]) := by
  refine ⟨by simp, ?_⟩
  rw [headD_append h.1, List.range_succ, List.filter_append, List.filter_cons_of_pos (p := fun x => decide (κ x = κ (g.headD 0))) (decide_eq_true hn.symm), List.filter_nil]
  exact congrArg (· ++ [n]) h.2
theorem place_spec {β : Type} [DecidableEq β] (κ : Nat → β) (n : Nat) : ∀ gs : List (List Nat), (∀ g, g ∈ gs → OkG κ n g) → Heads κ gs → (∀ x, x < n → κ x = κ n → ∃ g, g ∈ gs ∧ κ (g.headD 0) = κ n) →
    (∀ g, g ∈ place κ gs n → OkG κ (n + 1) g) ∧ Heads κ (place κ gs n) ∧ (∀ g, g ∈ gs → ∃ g', g' ∈ place κ gs n ∧ κ (g'.headD 0) = κ (g.headD 0)) ∧ (∃ g, g ∈ place κ gs n ∧ κ (g.headD 0) = κ n) ∧
    ((place κ gs n).map List.length).sum = (gs.map List.length).sum + 1 ∧ (∀ h, h ∈ place κ gs n → κ (h.headD 0) = κ n ∨ ∃ g, g ∈ gs ∧ κ (g.headD 0) = κ (h.headD 0))
  | [], _, _, h3 => by
    refine ⟨fun g hg => ?_, List.pairwise_singleton _ _, fun g hg => by simp at hg, ⟨[n], by simp [place], rfl⟩, rfl, fun h hh => .inl ?_⟩
    · have : g = [n] := by simpa [place] using hg
      subst this
      refine ⟨by simp, ?_⟩
      rw [List.range_succ, List.filter_append, List.filter_cons_of_pos (by simp), List.filter_nil, List.filter_eq_nil_iff.2 (fun x hx => ?_)]
      · rfl
      · intro e
        obtain ⟨g, hg, _⟩ := h3 x (List.mem_range.1 hx) (by simpa using e)
        simp at hg
    · have : h = [n] := by simpa [place] using hh
      subst this
      rfl
  | g :: t, h1, h2, h3 => by
    have h1t : ∀ g, g ∈ t → OkG κ n g := fun g hg => h1 g (List.mem_cons_of_mem _ hg)
    have hg := h1 g List.mem_cons_self
    have h2' := List.pairwise_cons.1 h2
    by_cases hk : κ (g.headD 0) = κ n
    · have e : place κ (g :: t) n = (g ++ [n]) :: t := by unfold place; rw [if_pos hk]
      rw [e]
      have hh := headD_append hg.1 [n]
      refine ⟨fun x hx => ?_, List.pairwise_cons.2 ⟨fun x hx => by rw [hh]; exact h2'.1 x hx, h2'.2⟩, fun x hx => ?_, ⟨g ++ [n], List.mem_cons_self, by rw [hh]; exact hk⟩, by simp; omega, fun x hx => ?_⟩
      · rcases List.mem_cons.1 hx with e | hx
        · rw [e]; exact hg.push hk
        · exact (h1t x hx).next (fun e => h2'.1 x hx (hk.trans e.symm))
      · rcases List.mem_cons.1 hx with e | hx
        · exact ⟨g ++ [n], List.mem_cons_self, by rw [hh, e]⟩
        · exact ⟨x, List.mem_cons_of_mem _ hx, rfl⟩
      · rcases List.mem_cons.1 hx with e | hx
        · left; rw [e, hh]; exact hk
        · exact .inr ⟨x, List.mem_cons_of_mem _ hx, rfl⟩
    · have e : place κ (g :: t) n = g :: place κ t n := by rw [place, if_neg hk]
      obtain ⟨a1, a2, a3, a4, a5, a6⟩ := place_spec κ n t h1t h2'.2 (fun x hx hx2 => by
        obtain ⟨y, hy, hy2⟩ := h3 x hx hx2
        rcases List.mem_cons.1 hy with e | hy
        · rw [e] at hy2; exact absurd hy2 hk
        · exact ⟨y, hy, hy2⟩)
      rw [e]
      refine ⟨fun x hx => ?_, List.pairwise_cons.2 ⟨fun x hx => ?_, a2⟩, fun x hx => ?_, ?_, by simp [a5]; omega, fun x hx => ?_⟩
      · rcases List.mem_cons.1 hx with e | hx
        · rw [e]; exact hg.next hk
        · exact a1 x hx
      · rcases a6 x hx with h | ⟨y, hy, hy2⟩
        · rw [h]; exact hk
        · rw [← hy2]; exact h2'.1 y hy
      · rcases List.mem_cons.1 hx with e | hx
        · exact ⟨g, List.mem_cons_self, by rw [e]⟩
        · obtain ⟨y, hy, hy2⟩ := a3 x hx
          exact ⟨y, List.mem_cons_of_mem _ hy, hy2⟩
      · obtain ⟨y, hy, hy2⟩ := a4
        exact ⟨y, List.mem_cons_of_mem _ hy, hy2⟩
      · rcases List.mem_cons.1 hx with e | hx
        · exact .inr ⟨g, List.mem_cons_self, by rw [e]⟩
        · rcases a6 x hx with h | ⟨y, hy, hy2⟩
          · exact .inl h
          · exact .inr ⟨y, List.mem_cons_of_mem _ hy, hy2⟩
structure Grouped {β : Type} [DecidableEq β] (κ : Nat → β) (n : Nat) (gs : List (List Nat)) : Prop where
  ok : ∀ g, g ∈ gs → OkG κ n g
  heads : Heads κ gs
  all : ∀ x, x < n → ∃ g, g ∈ gs ∧ κ (g.headD 0) = κ x
  sum : (gs.map List.length).sum = n
theorem groups_spec {β : Type} [DecidableEq β] (κ : Nat → β) : ∀ n, Grouped κ n (groups κ n)
  | 0 => ⟨fun g h => by simp [groups] at h, List.Pairwise.nil, fun x h => absurd h (by omega), rfl⟩
  | n + 1 => by
    have h := groups_spec κ n
    obtain ⟨a1, a2, a3, a4, a5, a6⟩ := place_spec κ n (groups κ n) h.ok h.heads (fun x hx e => by
      obtain ⟨g, hg, hk⟩ := h.all x hx
      exact ⟨g, hg, hk.trans e⟩)
    refine ⟨a1, a2, fun x hx => ?_, by rw [show groups κ (n + 1) = place κ (groups κ n) n from rfl, a5, h.sum]⟩
    by_cases e : x = n
    · rw [e]; exact a4
    · obtain ⟨g, hg, hk⟩ := h.all x (by omega)
      obtain ⟨g', hg', hk'⟩ := a3 g hg
      exact ⟨g', hg', hk'.trans hk⟩
theorem Grouped.mem {β : Type} [DecidableEq β] {κ : Nat → β} {n : Nat} {gs : List (List Nat)} (h : Grouped κ n gs) {g : List Nat} (hg : g ∈ gs) {x : Nat} : x ∈ g ↔ x < n ∧ κ x = κ (g.headD 0) := by
  have h1 := (h.ok g hg).2
  constructor
  · intro hx
    rw [h1] at hx
    have := List.mem_filter.1 hx
    exact ⟨List.mem_range.1 this.1, by simpa using this.2⟩
  · intro hx
    rw [h1]
    exact List.mem_filter.2 ⟨List.mem_range.2 hx.1, by simpa using hx.2⟩
def grp : List (List Nat) → Nat → Nat → Int
  | [], _, _ => -1
  | g :: t, x, i => if x ∈ g then (i : Int) else grp t x (i + 1)
theorem grp_at : ∀ (t : List (List Nat)) (x i : Nat), (∃ g, g ∈ t ∧ x ∈ g) → ∃ j, j < t.length ∧ grp t x i = ((i + j : Nat) : Int) ∧ x ∈ t.getD j []
  | [], x, i, h => by obtain ⟨g, h, _⟩ := h; simp at h
  | g :: t, x, i, h => by
    by_cases hx : x ∈ g
    · exact ⟨0, by simp, by unfold grp; rw [if_pos hx]; rfl, hx⟩
    · obtain ⟨j, j1, j2, j3⟩ := grp_at t x (i + 1) (by
        obtain ⟨g', hg', hx'⟩ := h
        rcases List.mem_cons.1 hg' with e | hg'
        · rw [e] at hx'; exact absurd hx' hx
        · exact ⟨g', hg', hx'⟩)
      refine ⟨j + 1, by simpa using j1, by unfold grp; rw [if_neg hx, j2]; congr 1; omega, by simpa using j3⟩
end Go.Proofs.Ytelfalicickelaa.GT
set_option linter.unusedSimpArgs false
set_option linter.unusedVariables false
namespace Go.Proofs.Ytelfalicickelaa.P
open Go.Lib Go.RowKit Go.Proofs.YtelfalicickelaaW.PrintWords Go.Proofs.YtelfalicickelaaW.PrintLast Go.Proofs.YtelfalicickelaaW.PrintMore Go.Proofs.Ytelfalicickelaa.Kit
def kap (c : GT.C) (f : Nat) : List Nat := GT.outsW c (some f)
theorem alkP_nI (c : GT.C) (f : Nat) (g : List Nat) : alkP c f (nI g) = decide (kap c (g.headD 0) = kap c f) := by
  unfold alkP kap
  cases g with
  | nil => rfl
  | cons a t => rfl
theorem idx_place (c : GT.C) (f : Nat) : ∀ (gs : List (List Nat)) (i : Nat), (idxF (alkP c f) (gs.map nI) i = -1 ∧ GT.place (kap c) gs f = gs ++ [[f]]) ∨
    ∃ j, ∃ h : j < gs.length, idxF (alkP c f) (gs.map nI) i = ((i + j : Nat) : Int) ∧ GT.place (kap c) gs f = gs.set j (gs[j] ++ [f])
  | [], i => .inl ⟨rfl, rfl⟩
  | g :: t, i => by
    rw [List.map_cons, idxF, alkP_nI, GT.place]
    by_cases h : kap c (g.headD 0) = kap c f
    · rw [if_pos (decide_eq_true h), if_pos h]
      exact .inr ⟨0, by simp, rfl, rfl⟩
    · rw [if_neg (by simpa using h), if_neg h]
      rcases idx_place c f t (i + 1) with ⟨e1, e2⟩ | ⟨j, hj, e1, e2⟩
      · exact .inl ⟨e1, by rw [e2]; rfl⟩
      · exact .inr ⟨j + 1, by simpa using hj, by rw [e1]; congr 1; omega, by rw [e2]; rfl⟩
theorem groups_len {β : Type} [DecidableEq β] {κ : Nat → β} {n : Nat} {gs : List (List Nat)} (h : GT.Grouped κ n gs) : gs.length ≤ n := by
  have h1 : ∀ l : List (List Nat), (∀ g, g ∈ l → g ≠ []) → l.length ≤ (l.map List.length).sum := by
    intro l
    induction l with
    | nil => exact fun _ => Nat.le_refl _
    | cons g t ih =>
      intro hl
      have := List.length_pos_iff.2 (hl g List.mem_cons_self)
      have := ih (fun x hx => hl x (List.mem_cons_of_mem _ hx))
      simp; omega
  have h2 := h1 gs (fun g hg => (h.ok g hg).1)
  have h3 := h.sum
  omega
theorem group_len {β : Type} [DecidableEq β] {κ : Nat → β} {n : Nat} {gs : List (List Nat)} (h : GT.Grouped κ n gs) {g : List Nat} (hg : g ∈ gs) : g.length ≤ n := by
  rw [(h.ok g hg).2]
  have := List.length_filter_le (fun x => decide (κ x = κ (g.headD 0))) (List.range n)
  rwa [List.length_range] at this
theorem head_mem {β : Type} [DecidableEq β] {κ : Nat → β} {n : Nat} {gs : List (List Nat)} (h : GT.Grouped κ n gs) {g : List Nat} (hg : g ∈ gs) : g.headD 0 ∈ g := by
  cases g with
  | nil => exact absurd rfl (h.ok [] hg).1
  | cons a t => exact List.mem_cons_self
theorem idx_ok (c : GT.C) {n : Nat} (hn : n ≤ 44) {gs : List (List Nat)} (h : GT.Grouped (kap c) n gs) : idxOk (gs.map nI) (n : Int) = true := by
  have hl := groups_len h
  unfold idxOk
  rw [Bool.and_eq_true, decide_eq_true_iff, List.all_eq_true]
  refine ⟨⟨by omega, by omega, by rw [List.length_map]; omega⟩, fun l hl => ?_⟩
  obtain ⟨g, hg, rfl⟩ := List.mem_map.1 hl
  have h1 := head_mem h hg
  have h2 := (h.mem hg).1 h1
  cases g with
  | nil => exact absurd rfl (h.ok [] hg).1
  | cons a t =>
    have h3 : a < n := h2.1
    show decide (0 ≤ (a : Int) ∧ (a : Int) ≤ 100) = true
    exact decide_eq_true (by omega)
theorem alk_l0 (c : GT.C) (M : Nat) (hM : M ≤ 44) : ∀ (d f k : Nat), M - f = d → f ≤ M → d < k →
    gate_AlikeT.l0 c k ((GT.groups (kap c) f).map nI) (M : Int) (f : Int) = some ((GT.groups (kap c) M).map nI, 0) := by
  intro d
  induction d with
  | zero =>
    intro f k hd hf hk
    obtain ⟨k, rfl⟩ : ∃ q, k = q + 1 := ⟨k - 1, by omega⟩
    rw [gate_AlikeT.l0, if_neg (by omega), show f = M by omega]
  | succ d ih =>
    intro f k hd hf hk
    obtain ⟨k, rfl⟩ : ∃ q, k = q + 1 := ⟨k - 1, by omega⟩
    have hw : wrap64 ((f : Int) + 1) = ((f + 1 : Nat) : Int) := by rw [w64 (by omega) (by omega)]; omega
    have h1 := ih (f + 1) k (by omega) (by omega) (by omega)
    have hG := GT.groups_spec (kap c) f
    have hok := idx_ok c (by omega) hG
    have hlen := groups_len hG
    have hgl : ∀ j (h : j < (GT.groups (kap c) f).length), (GT.groups (kap c) f)[j].length ≤ 44 := fun j h => by
      have := group_len hG (List.getElem_mem h)
      omega
    rw [show GT.groups (kap c) (f + 1) = GT.place (kap c) (GT.groups (kap c) f) f from rfl] at h1
    have hidx := idx_place c f (GT.groups (kap c) f) 0
    clear hG ih
    generalize GT.groups (kap c) f = gs at *
    have hI : idxO c (gs.map nI) (f : Int) = some (idxF (alkP c f) (gs.map nI) 0) := by
      unfold idxO
      rw [if_pos hok, Int.toNat_natCast]
    rw [gate_AlikeT.l0, if_pos (by omega), hI, Option.bind_some]
    rcases hidx with ⟨e1, e2⟩ | ⟨j, hj, e1, e2⟩
    · rw [e2] at h1
      rw [e1, if_pos (by decide), if_pos (by rw [List.length_map]; omega), Option.bind_some]
      have hl1 : ((gs.map nI ++ [[]] : List (List Int)).length : Int) - 1 = ((gs.length : Nat) : Int) := by rw [List.length_append, List.length_map]; simp
      rw [hl1, w64 (by omega) (by omega), if_pos (by omega), if_pos (by rw [List.length_append, List.length_map]; simp; omega)]
      have hrd : rd_L1 (gs.map nI ++ [[]]) ((gs.length : Nat) : Int) = [] := by
        unfold rd_L1
        rw [Int.toNat_natCast, List.getD_eq_getElem?_getD, List.getElem?_append_right (by simp)]
        simp
      rw [hrd, if_pos (by simp), hw, Int.toNat_natCast, List.set_append_right _ _ (by simp)]
      rw [List.map_append] at h1
      simpa [nI] using h1
    · rw [e2, List.map_set] at h1
      have hgj := hgl j hj
      rw [e1, Nat.zero_add, if_neg (by omega), if_pos (by omega), if_pos (by rw [List.length_map]; omega)]
      have hrd : rd_L1 (gs.map nI) ((j : Nat) : Int) = nI gs[j] := by
        unfold rd_L1
        rw [Int.toNat_natCast, List.getD_eq_getElem?_getD, List.getElem?_map, List.getElem?_eq_getElem hj]
        rfl
      rw [hrd, if_pos (by unfold nI; rw [List.length_map]; omega), hw, Int.toNat_natCast]
      have e3 : nI (gs[j] ++ [f]) = nI gs[j] ++ [(f : Int)] := by simp [nI]
      rw [e3] at h1
      exact h1
theorem gate_Alike_ok (N : Nat) (ls : List S40) (os : List Int) (hok : okC (N : Int) ls os = true) : gate_Alike.f (N : Int) ls os = some ((GT.groups (kap (toC N ls os)) (2 * (N + ls.length))).map nI, 0) := by
  have hs := okC_small hok
  unfold gate_Alike.f gate_AlikeT.f
  rw [if_pos hok, Int.toNat_natCast]
  exact alk_l0 (toC N ls os) (2 * (N + ls.length)) (by omega) (2 * (N + ls.length)) 0 1000 (by omega) (by omega) (by omega)
theorem kap_reply (N : Nat) (ls : List S40) (os : List Int) (f f' : Nat) : kap (toC N ls os) f = kap (toC N ls os) f' ↔ ∀ v, v < 2 ^ N → GT.reply (toC N ls os) (some f) v = GT.reply (toC N ls os) (some f') v := by
  constructor
  · intro h v hv
    rw [← outsW_reply (toC N ls os) (some f) v hv, ← outsW_reply (toC N ls os) (some f') v hv]
    unfold kap at h
    rw [h]
  · intro h
    unfold kap GT.outsW
    refine List.map_congr_left fun o ho => ?_
    unfold GT.wline
    refine GT.wd_ext _ fun v hv => ?_
    exact (GT.reply_ne _ _ _ v).1 (h v hv) o ho
end Go.Proofs.Ytelfalicickelaa.P
set_option linter.unusedSimpArgs false
set_option linter.unusedVariables false
namespace Go.Proofs.Ytelfalicickelaa.P
open Go.Lib Go.RowKit Go.Proofs.YtelfalicickelaaW.PrintWords Go.Proofs.YtelfalicickelaaW.PrintLast Go.Proofs.YtelfalicickelaaW.PrintMore Go.Proofs.Ytelfalicickelaa.Kit
theorem rdL4_nI (gs : List (List Nat)) (j : Nat) (hj : j < gs.length) : rd_L4 (gs.map nI) (j : Int) = nI gs[j] := by
  unfold rd_L4
  rw [Int.toNat_natCast, List.getD_eq_getElem?_getD, List.getElem?_map, List.getElem?_eq_getElem hj]
  rfl
theorem group_l0 (gs : List (List Nat)) (x : Nat) (h1 : gs.length ≤ 100) (h2 : ∀ g, g ∈ gs → g.length ≤ 100) : ∀ (d i k : Nat), gs.length - i = d → i ≤ gs.length → d + 110 < k →
    neonwrightlaw07_group.l0 k (gs.map nI) (x : Int) (i : Int) = some (GT.grp (gs.drop i) x i) := by
  intro d
  induction d with
  | zero =>
    intro i k hd hi hk
    obtain ⟨k, rfl⟩ : ∃ q, k = q + 1 := ⟨k - 1, by omega⟩
    rw [neonwrightlaw07_group.l0, if_neg (by rw [List.length_map]; omega), List.drop_eq_nil_of_le (by omega)]
    rfl
  | succ d ih =>
    intro i k hd hi hk
    obtain ⟨k, rfl⟩ : ∃ q, k = q + 1 := ⟨k - 1, by omega⟩
    have hil : i < gs.length := by omega
    have hw : ∀ _ : Unit, wrap64 ((i : Int) + 1) = ((i + 1 : Nat) : Int) := fun _ => by rw [w64 (by omega) (by omega)]; omega
    have hg := h2 gs[i] (List.getElem_mem hil)
    rw [neonwrightlaw07_group.l0, if_pos (by rw [List.length_map]; omega), if_pos (by omega), rdL4_nI gs i hil, has_f _ _ (by omega) k (by omega), Option.bind_some, hw (), List.drop_eq_getElem_cons hil, GT.grp]
    by_cases h : x ∈ gs[i]
    · rw [decide_eq_true h, if_pos rfl, if_pos h]
    · rw [decide_eq_false h, if_neg (by decide), if_neg h, ih (i + 1) k (by omega) (by omega) (by omega)]
theorem group_f (gs : List (List Nat)) (x : Nat) (h1 : gs.length ≤ 100) (h2 : ∀ g, g ∈ gs → g.length ≤ 100) (k : Nat) (hk : 300 ≤ k) : neonwrightlaw07_group.f k (gs.map nI) (x : Int) = some (GT.grp gs x 0) :=
  group_l0 gs x h1 h2 gs.length 0 k (by omega) (by omega) (by omega)
end Go.Proofs.Ytelfalicickelaa.P
set_option linter.unusedSimpArgs false
set_option linter.unusedVariables false
namespace Go.Proofs.Ytelfalicickelaa.P
open Go.Lib Go.RowKit Go.Proofs.YtelfalicickelaaW.PrintWords Go.Proofs.YtelfalicickelaaW.PrintLast Go.Proofs.YtelfalicickelaaW.PrintMore Go.Proofs.Ytelfalicickelaa.Kit
theorem rd_nIg {V : List Nat} {j : Nat} (h : j < V.length) : rd (nI V) (j : Int) = ((V[j] : Nat) : Int) := by
  rw [rd_get _ _ (by rw [nI_length]; exact h)]
  simp [nI]
theorem susOk_nI (N m : Nat) (V R : List Nat) (hl : V.length = R.length) (hV : ∀ v, v ∈ V → v < 2 ^ N) (hR : ∀ r, r ∈ R → r < 2 ^ m) : susOk N m (nI V) (nI R) = true := by
  unfold susOk
  rw [List.all_eq_true]
  intro j hj
  have hj' := List.mem_range.1 hj
  rw [nI_length] at hj'
  unfold susAt
  rw [rd_nIg hj', rd_nIg (by omega), Bool.and_eq_true, decide_eq_true_iff, decide_eq_true_iff]
  exact ⟨⟨by omega, Int.ofNat_lt.2 (hV _ (List.getElem_mem hj'))⟩, by omega, Int.ofNat_lt.2 (hR _ (List.getElem_mem _))⟩
theorem fits_nI (c : GT.C) (V : List Nat) (g : Nat → Nat) (f : Nat) : fitsTo c (nI V) (nI (V.map g)) f V.length = true ↔ ∀ v, v ∈ V → GT.reply c (some f) v = g v := by
  unfold fitsTo
  rw [List.all_eq_true]
  have key : ∀ j (h : j < V.length), fitAt c (nI V) (nI (V.map g)) f j = true ↔ GT.reply c (some f) V[j] = g V[j] := fun j h => by
    unfold fitAt
    rw [rd_nIg h, rd_nIg (by rw [List.length_map]; exact h), Int.toNat_natCast, decide_eq_true_iff, List.getElem_map]
    omega
  constructor
  · intro h v hv
    obtain ⟨j, hj, rfl⟩ := List.mem_iff_getElem.1 hv
    exact (key j hj).1 (h j (List.mem_range.2 hj))
  · intro h j hj
    have hj' := List.mem_range.1 hj
    exact (key j hj').2 (h _ (List.getElem_mem hj'))
theorem reply_lt (c : GT.C) (F : Option Nat) (v : Nat) : GT.reply c F v < 2 ^ c.os.length := by
  have := GT.num_lt (GT.outs c F v)
  rw [GT.outs_length] at this
  exact this
theorem gate_Suspects_nI (N : Nat) (ls : List S40) (os : List Int) (hok : okC (N : Int) ls os = true) (V : List Nat) (F : Nat) (h64 : V.length ≤ 64) (hV : ∀ v, v ∈ V → v < 2 ^ N) :
    gate_Suspects.f (N : Int) ls os (nI V) (nI (V.map fun v => GT.reply (toC N ls os) (some F) v)) = some (nI ((List.range (2 * (N + ls.length))).filter fun f => fitsTo (toC N ls os) (nI V) (nI (V.map fun v => GT.reply (toC N ls os) (some F) v)) f V.length), 0) := by
  have ho : (toC N ls os).os.length = os.length := by simp [toC]
  unfold gate_Suspects.f
  rw [if_pos ⟨hok, by rw [nI_length, nI_length, List.length_map], by rw [nI_length]; exact h64, by
    rw [Int.toNat_natCast]
    exact susOk_nI N os.length V _ (by rw [List.length_map]) hV (fun r hr => by
      obtain ⟨v, _, rfl⟩ := List.mem_map.1 hr
      rw [← ho]
      exact reply_lt _ _ _)⟩, Int.toNat_natCast]
  unfold susTo
  rw [nI_length]
theorem fn_l2 (gs : List (List Nat)) (at' : Nat) (hat : at' < gs.length) (A : List Nat) (hA : A.length ≤ 44) (hg : (gs[at']).length ≤ 44) (hmem : ∀ x, x ∈ gs[at'] → x ∈ A) : ∀ (d j k : Nat), (gs[at']).length - j = d → j ≤ (gs[at']).length → d + 60 < k →
    neonwrightlaw07_GateFinds.l2 k (gs.map nI) (nI A) (at' : Int) (j : Int) = some true := by
  have hrd := rdL4_nI gs at' hat
  obtain ⟨g, hgg⟩ : ∃ g, gs[at'] = g := ⟨_, rfl⟩
  rw [hgg] at hrd hg hmem ⊢
  have hlen : (gs.map nI).length = gs.length := List.length_map ..
  have hnl : (nI g).length = g.length := nI_length g
  intro d
  induction d with
  | zero =>
    intro j k hd hj hk
    obtain ⟨k, rfl⟩ : ∃ q, k = q + 1 := ⟨k - 1, by omega⟩
    rw [neonwrightlaw07_GateFinds.l2, if_pos (by omega), if_pos (by omega), hrd, if_neg (by omega), alive_f, Option.bind_some]
  | succ d ih =>
    intro j k hd hj hk
    obtain ⟨k, rfl⟩ : ∃ q, k = q + 1 := ⟨k - 1, by omega⟩
    have hjl : j < g.length := by omega
    have hw : ∀ _ : Unit, wrap64 ((j : Int) + 1) = ((j + 1 : Nat) : Int) := fun _ => by rw [w64 (by omega) (by omega)]; omega
    rw [neonwrightlaw07_GateFinds.l2, if_pos (by omega), if_pos (by omega), hrd, if_pos (by omega), if_pos (by omega), rd_nIg hjl, has_f A _ (by omega) k (by omega), Option.bind_some, decide_eq_true (hmem _ (List.getElem_mem hjl)), if_pos rfl, hw ()]
    exact ih (j + 1) k (by omega) (by omega) (by omega)
theorem fn_l1 (N : Nat) (ls : List S40) (os : List Int) (hok : okC (N : Int) ls os = true) (L a : Int) (hst : stuckOk (N + ls.length) L a) (F : Nat) (hF : (2 * L + a).toNat = F) (V : List Nat) (h64 : V.length ≤ 64) (hV : ∀ v, v ∈ V → v < 2 ^ N) : ∀ (d x k : Nat), 2 ^ N - x = d → x ≤ 2 ^ N → d + 1000 ≤ k →
    neonwrightlaw07_GateFinds.l1 k (nI V) (nI (V.map fun v => GT.reply (toC N ls os) (some F) v)) (nI (List.range x)) (nI ((List.range x).map fun v => GT.reply (toC N ls os) (some F) v)) (x : Int) (N : Int) ls os L a = some true := by
  have hs := okC_small hok
  have hp := pow6 (N := N) (by omega)
  have hfail : ∀ x : Nat, x < 2 ^ N → gate_Failed.f (N : Int) ls os L a (x : Int) = some (((GT.reply (toC N ls os) (some F) x : Nat) : Int), 0) := fun x hx => by rw [← hF]; exact gate_Failed_ok N ls os hok L a hst x hx
  have hFl : F < 2 * (N + ls.length) := by rw [← hF]; exact (failN_ok hst).2
  have hst' := hst
  unfold stuckOk at hst'
  have hno : ∀ _ : Unit, wrap64 (wrap64 (2 * L) + a) = ((F : Nat) : Int) := fun _ => by rw [w64 (x := 2 * L) (by omega) (by omega), w64 (by omega) (by omega)]; omega
  intro d
  induction d with
  | zero =>
    intro x k hd hx hk
    obtain ⟨k, rfl⟩ : ∃ q, k = q + 2 := ⟨k - 2, by omega⟩
    have hxe : x = 2 ^ N := by omega
    have hG := GT.groups_spec (kap (toC N ls os)) (2 * (N + ls.length))
    have hgl := groups_len hG
    have hall := gate_Suspects_nI N ls os hok (List.range (2 ^ N)) F (by rw [List.length_range]; exact hp) (fun v hv => List.mem_range.1 hv)
    have hown := gate_Suspects_nI N ls os hok V F h64 hV
    rw [neonwrightlaw07_GateFinds.l1, if_pos (by omega), shl1n (by omega), if_neg (by omega), gate_Alike_ok N ls os hok, Option.bind_some, hown, Option.bind_some, hxe, hall, Option.bind_some, hno ()]
    generalize GT.groups (kap (toC N ls os)) (2 * (N + ls.length)) = gs at *
    have hgm : ∀ g, g ∈ gs → g.length ≤ 100 := fun g hg => by have := group_len hG hg; omega
    obtain ⟨g0, hg0, hk0⟩ := hG.all F hFl
    obtain ⟨j, j1, j2, j3⟩ := GT.grp_at gs F 0 ⟨g0, hg0, (hG.mem hg0).2 ⟨hFl, hk0.symm⟩⟩
    rw [Nat.zero_add] at j2
    have hgj : gs.getD j [] = gs[j] := by rw [List.getD_eq_getElem?_getD, List.getElem?_eq_getElem j1]; rfl
    rw [hgj] at j3
    have hFj := (hG.mem (List.getElem_mem j1)).1 j3
    have hglen := group_len hG (List.getElem_mem j1)
    rw [group_f gs F (by omega) hgm (k + 1) (by omega), Option.bind_some, j2]
    dsimp only
    rw [if_pos rfl, if_pos rfl, if_pos rfl, if_neg (by omega), if_pos (by omega), if_pos (by rw [List.length_map]; omega), rdL4_nI gs j j1]
    have hsame : (List.range (2 * (N + ls.length))).filter (fun f => fitsTo (toC N ls os) (nI (List.range (2 ^ N))) (nI ((List.range (2 ^ N)).map fun v => GT.reply (toC N ls os) (some F) v)) f (List.range (2 ^ N)).length) = gs[j] := by
      rw [(hG.ok _ (List.getElem_mem j1)).2]
      refine List.filter_congr fun f hf => ?_
      rw [Bool.eq_iff_iff, fits_nI, decide_eq_true_iff, ← hFj.2, kap_reply]
      exact ⟨fun h v hv => h v (List.mem_range.2 hv), fun h v hv => h v (List.mem_range.1 hv)⟩
    rw [hsame, same_f _ _ (by rw [nI_length]; omega) (k + 1) (by rw [nI_length]; omega), Option.bind_some, decide_eq_true rfl, neonwrightlaw07_GateFinds.j3, if_neg (by decide)]
    refine fn_l2 gs j j1 _ ?_ (by omega) (fun x hx => ?_) (gs[j]).length 0 k (Nat.sub_zero _) (Nat.zero_le _) (by omega)
    · refine Nat.le_trans (List.length_filter_le _ _) ?_
      rw [List.length_range]; omega
    · have hxj := (hG.mem (List.getElem_mem j1)).1 hx
      refine List.mem_filter.2 ⟨List.mem_range.2 hxj.1, ?_⟩
      rw [fits_nI]
      have hkx : kap (toC N ls os) x = kap (toC N ls os) F := hxj.2.trans hFj.2.symm
      exact fun v hv => (kap_reply N ls os x F).1 hkx v (hV v hv)
  | succ d ih =>
    intro x k hd hx hk
    obtain ⟨k, rfl⟩ : ∃ q, k = q + 1 := ⟨k - 1, by omega⟩
    have hxl : x < 2 ^ N := by omega
    have hw : ∀ _ : Unit, wrap64 ((x : Int) + 1) = ((x + 1 : Nat) : Int) := fun _ => by rw [w64 (by omega) (by omega)]; omega
    have h1 := ih (x + 1) k (by omega) (by omega) (by omega)
    rw [List.range_succ, List.map_append, nI_snoc, List.map_cons, List.map_nil, nI_snoc] at h1
    rw [neonwrightlaw07_GateFinds.l1, if_pos (by omega), shl1n (by omega), if_pos (by omega), hfail x hxl, Option.bind_some]
    dsimp only
    rw [if_pos rfl, if_pos (by rw [nI_length, List.length_range]; omega), if_pos (by rw [nI_length, List.length_map, List.length_range]; omega), hw ()]
    exact h1
theorem fn_l0 (N : Nat) (ls : List S40) (os : List Int) (hok : okC (N : Int) ls os = true) (L a : Int) (hst : stuckOk (N + ls.length) L a) (F : Nat) (hF : (2 * L + a).toNat = F) (bs : List Int) (h64 : bs.length ≤ 64) (hb : ∀ b, b ∈ bs → 0 ≤ b ∧ b ≤ 255) : ∀ (d i k : Nat), bs.length - i = d → i ≤ bs.length → d + 2000 ≤ k →
    neonwrightlaw07_GateFinds.l0 k bs (nI ((bs.take i).map fun b => b.toNat % 2 ^ N)) (nI (((bs.take i).map fun b => b.toNat % 2 ^ N).map fun v => GT.reply (toC N ls os) (some F) v)) (i : Int) (N : Int) ls os L a = some true := by
  have hs := okC_small hok
  have hp := pow6 (N := N) (by omega)
  have hpos : 0 < 2 ^ N := Nat.pos_of_ne_zero (by simp)
  have hfail : ∀ x : Nat, x < 2 ^ N → gate_Failed.f (N : Int) ls os L a (x : Int) = some (((GT.reply (toC N ls os) (some F) x : Nat) : Int), 0) := fun x hx => by rw [← hF]; exact gate_Failed_ok N ls os hok L a hst x hx
  intro d
  induction d with
  | zero =>
    intro i k hd hi hk
    obtain ⟨k, rfl⟩ : ∃ q, k = q + 1 := ⟨k - 1, by omega⟩
    rw [neonwrightlaw07_GateFinds.l0, if_neg (by omega)]
    have e := fn_l1 N ls os hok L a hst F hF ((bs.take i).map fun b => b.toNat % 2 ^ N) (by rw [List.length_map, List.length_take]; omega) (fun v hv => by
      obtain ⟨b, _, rfl⟩ := List.mem_map.1 hv
      exact Nat.mod_lt _ hpos) (2 ^ N) 0 k (Nat.sub_zero _) (Nat.zero_le _) (by omega)
    exact e
  | succ d ih =>
    intro i k hd hi hk
    obtain ⟨k, rfl⟩ : ∃ q, k = q + 1 := ⟨k - 1, by omega⟩
    have hil : i < bs.length := by omega
    have hw : ∀ _ : Unit, wrap64 ((i : Int) + 1) = ((i + 1 : Nat) : Int) := fun _ => by rw [w64 (by omega) (by omega)]; omega
    obtain ⟨hb0, hb1⟩ := hb _ (List.getElem_mem hil)
    obtain ⟨b, hbe⟩ := Int.eq_ofNat_of_zero_le hb0
    have h1 := ih (i + 1) k (by omega) (by omega) (by omega)
    rw [List.take_succ_eq_append_getElem hil, List.map_append, List.map_cons, List.map_nil, List.map_append, List.map_cons, List.map_nil, hbe, Int.toNat_natCast, nI_snoc, nI_snoc] at h1
    have hmod : b % 2 ^ N < 2 ^ N := Nat.mod_lt _ hpos
    have hl1 : ((bs.take i).map fun b => b.toNat % 2 ^ N).length = i := by rw [List.length_map, List.length_take]; omega
    have c0 : ¬ ((2 ^ N : Nat) : Int) = 0 := by generalize 2 ^ N = q at *; omega
    have c1 : (nI ((bs.take i).map fun b => b.toNat % 2 ^ N)).length < 17592186044416 := by rw [nI_length, hl1]; omega
    have c2 : (nI (((bs.take i).map fun b => b.toNat % 2 ^ N).map fun v => GT.reply (toC N ls os) (some F) v)).length < 17592186044416 := by rw [nI_length, List.length_map, hl1]; omega
    rw [neonwrightlaw07_GateFinds.l0, if_pos (by omega), if_pos (by omega), if_pos (by omega), shl1n (by omega), if_neg c0, rd_get _ _ hil, hbe, w64 (x := ((b : Nat) : Int)) (by omega) (by omega), tmodn, hfail _ hmod, Option.bind_some]
    dsimp only
    rw [if_pos rfl, if_pos c1, if_pos c2, hw ()]
    exact h1
end Go.Proofs.Ytelfalicickelaa.P
namespace Go.Proofs.Ytelfalicickelaa.Pure
open Go.RowKit Go.Proofs.Ytelfalicickelaa.P Go.Proofs.YtelfalicickelaaW.PrintWords Go.Proofs.YtelfalicickelaaW.PrintLast Go.Proofs.YtelfalicickelaaW.PrintMore Go.Proofs.Ytelfalicickelaa.Kit
theorem GateFinds (n : Int) (ls : List S40) (os : List Int) (L a : Int) (bs : List Int) (w0 : (Lit.int .i64 n).wf = true) (w2 : ∀ x, x ∈ bs → (Lit.int .u8 x).wf = true) : ∃ k, neonwrightlaw07_GateFinds.f k n ls os L a bs = some true := by
  refine ⟨5000, ?_⟩
  have hj : neonwrightlaw07_GateFinds.j0 5000 bs true n ls os L a = some true := by
    rw [show (5000 : Nat) = 4999 + 1 from rfl, neonwrightlaw07_GateFinds.j0, if_pos rfl, alive_f, Option.bind_some]
  unfold neonwrightlaw07_GateFinds.f
  rw [few_f, Option.bind_some]
  by_cases h : isFew ls os = true
  · rw [if_pos h]
    by_cases h64 : (bs.length : Int) > 64
    · rw [if_pos h64]; exact hj
    · rw [if_neg h64, rCircuit_f n ls os 5000 (by omega), Option.bind_some]
      by_cases hok : okC n ls os = true
      · obtain ⟨N, rfl⟩ := okC_nat hok
        have hs := okC_small hok
        rw [if_pos hok, stuck_f N (by omega) ls (by omega), Option.bind_some]
        by_cases hst : stuckOk (N + ls.length) L a
        · rw [decide_eq_true hst, show (5000 : Nat) = 4999 + 1 from rfl, neonwrightlaw07_GateFinds.j0, if_neg (by decide)]
          exact fn_l0 N ls os hok L a hst _ rfl bs (by omega) (fun b hb => by
            have h1 := (Bool.and_eq_true _ _).mp (w2 b hb)
            exact ⟨of_decide_eq_true h1.1, of_decide_eq_true h1.2⟩) bs.length 0 4999 (Nat.sub_zero _) (Nat.zero_le _) (by omega)
        · rw [decide_eq_false hst]; exact hj
      · rw [if_neg hok]; exact hj
  · rw [if_neg h]; exact hj
end Go.Proofs.Ytelfalicickelaa.Pure
